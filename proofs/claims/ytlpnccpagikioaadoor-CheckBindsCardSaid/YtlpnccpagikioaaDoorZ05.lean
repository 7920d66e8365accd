import Derived.Test.YtlpnccpagikioaaDoorZ04
set_option linter.unusedVariables false
set_option linter.unusedSimpArgs false
set_option linter.unusedSectionVars false
namespace Go.Den
open Go.Proofs
set_option maxRecDepth 100000
def parse_parser_rule_lv : Live := [(8, [0, 2, 3], [2, 3, 1000, 1001, 1002, 1003])]
noncomputable def parse_parser_rule_σ (n : Nat) : Spec := (inst 73 [.pl 1000 0] [[.sl kdK, .i IntKind.i64]] (OSh.pan (.agg [.s, .b, .i IntKind.i64, .s]) (.ifc 93 (.agg [.i IntKind.i64, .i IntKind.i64])) [[.sl kdK, .i IntKind.i64]]) (fun x e => parse_parser_term_v n e.1.1.1 e.1.1.2 e.1.2.1) (inst 74 [.pl 1000 0, .s] [[.sl kdK, .i IntKind.i64]] (OSh.pan (.tup []) (.ifc 93 (.agg [.i IntKind.i64, .i IntKind.i64])) [[.sl kdK, .i IntKind.i64]]) (fun x e => parse_parser_must_v n x.2.1 e.1.1.1 e.1.1.2 e.1.2.1) (inst 75 [.pl 1000 0] [[.sl kdK, .i IntKind.i64]] (OSh.pan (.s) (.ifc 93 (.agg [.i IntKind.i64, .i IntKind.i64])) [[.sl kdK, .i IntKind.i64]]) (fun x e => parse_parser_word_v n e.1.1.1 e.1.1.2 e.1.2.1) (inst 76 [.pl 1000 0] [[.sl kdK, .i IntKind.i64]] (OSh.pan (.slt kdT 0) (.ifc 93 (.agg [.i IntKind.i64, .i IntKind.i64])) [[.sl kdK, .i IntKind.i64]]) (fun x e => parse_parser_args_v n e.1.1.1 e.1.1.2 e.1.2.1) (inst 77 [.pl 1000 0, .s] [[.sl kdK, .i IntKind.i64]] (OSh.plain (.b) [[.sl kdK, .i IntKind.i64]]) (fun x e => parse_parser_pass_v n x.2.1 e.1.1.1 e.1.1.2 e.1.2.1) (inst 52 [.pl 1000 0] [[.sl kdK, .i IntKind.i64]] (OSh.plain (.b) [[.sl kdK, .i IntKind.i64]]) (fun x e => parse_parser_begins_v n e.1.1.1 e.1.1.2 e.1.2.1) (inst 78 [.pl 1000 0] [[.sl kdK, .i IntKind.i64]] (OSh.pan (.agg [.s, .b, .i IntKind.i64, .s, .s, .sl kdT, .s, .b, .i IntKind.i64, .s]) (.ifc 93 (.agg [.i IntKind.i64, .i IntKind.i64])) [[.sl kdK, .i IntKind.i64]]) (fun x e => parse_parser_literal_v n e.1.1.1 e.1.1.2 e.1.2.1) (inst 53 [.pl 1000 0, .i IntKind.i64] [[.sl kdK, .i IntKind.i64]] (OSh.pan (.junk) (.ifc 93 (.agg [.i IntKind.i64, .i IntKind.i64])) [[.sl kdK, .i IntKind.i64]]) (fun x e => parse_parser_fail_v n x.2.1 e.1.1.1 e.1.1.2 e.1.2.1) Spec.none))))))))
theorem parse_parser_rule_σok (n : Nat) : SpecOk Tryd.prog (parse_parser_rule_σ n) := (inst_ok (fun x e y h => parse_parser_term_c n e.1.1.1 e.1.1.2 e.1.2.1 y h) (inst_ok (fun x e y h => parse_parser_must_c n x.2.1 e.1.1.1 e.1.1.2 e.1.2.1 y h) (inst_ok (fun x e y h => parse_parser_word_c n e.1.1.1 e.1.1.2 e.1.2.1 y h) (inst_ok (fun x e y h => parse_parser_args_c n e.1.1.1 e.1.1.2 e.1.2.1 y h) (inst_ok (fun x e y h => parse_parser_pass_c n x.2.1 e.1.1.1 e.1.1.2 e.1.2.1 y h) (inst_ok (fun x e y h => parse_parser_begins_c n e.1.1.1 e.1.1.2 e.1.2.1 y h) (inst_ok (fun x e y h => parse_parser_literal_c n e.1.1.1 e.1.1.2 e.1.2.1 y h) (inst_ok (fun x e y h => parse_parser_fail_c n x.2.1 e.1.1.1 e.1.1.2 e.1.2.1 y h) (SpecOk.none _)))))))))
noncomputable def parse_parser_rule_Φ (n : Nat) : Orc := with_ Tryd.prog (parse_parser_rule_σ n) [] n 0 hsL
noncomputable def parse_parser_rule_v (n : Nat) (b0 : Bool) (r1 : Rows) (j2 : Int) : Option (Bool × (ByteArray × Bool × Int × ByteArray × ByteArray × (Bool × Rows) × ByteArray × Bool × Int × ByteArray × (Bool × Rows) × Unit) × (Int × Int × Unit) × ((Bool × Rows) × Int × Unit) × Unit) :=
  DM.denFn tm (parse_parser_rule_Φ n) parse_parser_rule_lv n Tryd.f54 false [AV.pl 1000 0] [[AV.sl b0 kdK r1 Right.no, AV.dv (DV.val (Value.int IntKind.i64 j2))]] (OSh.chk (OSh.pan (.agg [.s, .b, .i IntKind.i64, .s, .s, .sl kdT, .s, .b, .i IntKind.i64, .s, .sl kdL]) (.ifc 93 (.agg [.i IntKind.i64, .i IntKind.i64])) [[.sl kdK, .i IntKind.i64]]))
noncomputable def parse_parser_rule_l8 (n : Nat) (b0 : Bool) (r1 : Rows) (j2 : Int) (i0 : Nat) (b11 : Bool) (r12 : List (List DV)) (j13 : Int) (s14 : ByteArray) (b15 : Bool) (j16 : Int) (s17 : ByteArray) (s18 : ByteArray) (b19 : Bool) (r20 : List (List DV)) (s21 : ByteArray) (b22 : Bool) (j23 : Int) (s24 : ByteArray) (b32 : Bool) (r33 : List (List DV)) : Option (Bool × (ByteArray × Bool × Int × ByteArray × ByteArray × (Bool × Rows) × ByteArray × Bool × Int × ByteArray × (Bool × Rows) × Unit) × (Int × Int × Unit) × ((Bool × Rows) × Int × Unit) × Unit) :=
  DM.loopFn tm (parse_parser_rule_Φ n) parse_parser_rule_lv n Tryd.f54 false [[AV.sl b0 kdK r1 Right.no, AV.dv (DV.val (Value.int IntKind.i64 j2))]] (OSh.chk (OSh.pan (.agg [.s, .b, .i IntKind.i64, .s, .s, .sl kdT, .s, .b, .i IntKind.i64, .s, .sl kdL]) (.ifc 93 (.agg [.i IntKind.i64, .i IntKind.i64])) [[.sl kdK, .i IntKind.i64]])) 8 [] i0 (St.mk [AV.pl 1000 0, Jk, AV.pl 2 0, AV.pl 3 0, Jk, Jk, Jk, Jk, Jk, Jk, Jk, Jk, Jk, Jk, Jk, Jk, Jk, Jk, Jk, Jk, Jk, Jk, Jk, Jk, Jk, Jk, Jk, Jk, Jk, Jk, Jk, Jk, Jk, Jk, Jk, Jk, Jk, Jk, Jk, Jk, Jk, Jk, Jk, Jk] [(1000, [AV.sl b11 kdK r12 Right.no, AV.dv (DV.val (Value.int IntKind.i64 j13))]), (2, [AV.dv (DV.val (Value.string (ByteArray.mk #[]))), AV.dv (DV.val (Value.bool false)), AV.dv (DV.val (Value.int IntKind.i64 0)), AV.dv (DV.val (Value.string (ByteArray.mk #[]))), AV.dv (DV.val (Value.string (ByteArray.mk #[]))), AV.sl true kdT [] (Right.tok 20133), AV.dv (DV.val (Value.string (ByteArray.mk #[]))), AV.dv (DV.val (Value.bool false)), AV.dv (DV.val (Value.int IntKind.i64 0)), AV.dv (DV.val (Value.string (ByteArray.mk #[]))), AV.sl true kdL [] (Right.tok 20138)]), (3, [AV.dv (DV.val (Value.string s14)), AV.dv (DV.val (Value.bool b15)), AV.dv (DV.val (Value.int IntKind.i64 j16)), AV.dv (DV.val (Value.string s17)), AV.dv (DV.val (Value.string s18)), AV.sl b19 kdT r20 (Right.tok 20197), AV.dv (DV.val (Value.string s21)), AV.dv (DV.val (Value.bool b22)), AV.dv (DV.val (Value.int IntKind.i64 j23)), AV.dv (DV.val (Value.string s24)), AV.sl b32 kdL r33 (Right.tok 20202)])])
theorem parse_parser_rule_s8 (n : Nat) (b0 : Bool) (r1 : Rows) (j2 : Int) (i0 : Nat) (b11 : Bool) (r12 : List (List DV)) (j13 : Int) (s14 : ByteArray) (b15 : Bool) (j16 : Int) (s17 : ByteArray) (s18 : ByteArray) (b19 : Bool) (r20 : List (List DV)) (s21 : ByteArray) (b22 : Bool) (j23 : Int) (s24 : ByteArray) (b32 : Bool) (r33 : List (List DV)) : parse_parser_rule_l8 n b0 r1 j2 (i0 + 1) b11 r12 j13 s14 b15 j16 s17 s18 b19 r20 s21 b22 j23 s24 b32 r33 =
  obind (parse_parser_begins_v n b11 r12 j13) fun y34 =>
  bif y34.fst then
    bif (↑(List.length r33) : Int) == 4 then
      obind (parse_parser_fail_v n 81 y34.snd.fst.fst.fst y34.snd.fst.fst.snd y34.snd.fst.snd.fst) fun y35 =>
      bif y35.fst then
        some (true, Sh.dflt (.agg [.s, .b, .i IntKind.i64, .s, .s, .sl kdT, .s, .b, .i IntKind.i64, .s, .sl kdL]), (y35.snd.snd.fst.fst, (y35.snd.snd.fst.snd.fst, ())), (((y35.snd.snd.snd.fst.fst.fst, y35.snd.snd.snd.fst.fst.snd), (y35.snd.snd.snd.fst.snd.fst, ())), ()))
      else obind (parse_parser_literal_v n y35.snd.snd.snd.fst.fst.fst y35.snd.snd.snd.fst.fst.snd y35.snd.snd.snd.fst.snd.fst) fun y36 =>
      bif y36.fst then
        some (true, Sh.dflt (.agg [.s, .b, .i IntKind.i64, .s, .s, .sl kdT, .s, .b, .i IntKind.i64, .s, .sl kdL]), (y36.snd.snd.fst.fst, (y36.snd.snd.fst.snd.fst, ())), (((y36.snd.snd.snd.fst.fst.fst, y36.snd.snd.snd.fst.fst.snd), (y36.snd.snd.snd.fst.snd.fst, ())), ()))
      else if (List.length r33 + List.length [[DV.val (Value.string y36.snd.fst.fst), DV.val (Value.bool y36.snd.fst.snd.fst), DV.val (Value.int IntKind.i64 y36.snd.fst.snd.snd.fst), DV.val (Value.string y36.snd.fst.snd.snd.snd.fst), DV.val (Value.string y36.snd.fst.snd.snd.snd.snd.fst), DV.sl y36.snd.fst.snd.snd.snd.snd.snd.fst.fst kdT y36.snd.fst.snd.snd.snd.snd.snd.fst.snd, DV.val (Value.string y36.snd.fst.snd.snd.snd.snd.snd.snd.fst), DV.val (Value.bool y36.snd.fst.snd.snd.snd.snd.snd.snd.snd.fst), DV.val (Value.int IntKind.i64 y36.snd.fst.snd.snd.snd.snd.snd.snd.snd.snd.fst), DV.val (Value.string y36.snd.fst.snd.snd.snd.snd.snd.snd.snd.snd.snd.fst)]]) * 136 ≤ 140737488355328 then
        obind (parse_parser_pass_v n (ByteArray.mk #[46]) y36.snd.snd.snd.fst.fst.fst y36.snd.snd.snd.fst.fst.snd y36.snd.snd.snd.fst.snd.fst) fun y37 =>
        bif y37.fst then
          some (false, (s14, (b15, (j16, (s17, (s18, ((b19, r20), (s21, (b22, (j23, (s24, ((b32 && List.isEmpty [[DV.val (Value.string y36.snd.fst.fst), DV.val (Value.bool y36.snd.fst.snd.fst), DV.val (Value.int IntKind.i64 y36.snd.fst.snd.snd.fst), DV.val (Value.string y36.snd.fst.snd.snd.snd.fst), DV.val (Value.string y36.snd.fst.snd.snd.snd.snd.fst), DV.sl y36.snd.fst.snd.snd.snd.snd.snd.fst.fst kdT y36.snd.fst.snd.snd.snd.snd.snd.fst.snd, DV.val (Value.string y36.snd.fst.snd.snd.snd.snd.snd.snd.fst), DV.val (Value.bool y36.snd.fst.snd.snd.snd.snd.snd.snd.snd.fst), DV.val (Value.int IntKind.i64 y36.snd.fst.snd.snd.snd.snd.snd.snd.snd.snd.fst), DV.val (Value.string y36.snd.fst.snd.snd.snd.snd.snd.snd.snd.snd.snd.fst)]], appX r33 [[DV.val (Value.string y36.snd.fst.fst), DV.val (Value.bool y36.snd.fst.snd.fst), DV.val (Value.int IntKind.i64 y36.snd.fst.snd.snd.fst), DV.val (Value.string y36.snd.fst.snd.snd.snd.fst), DV.val (Value.string y36.snd.fst.snd.snd.snd.snd.fst), DV.sl y36.snd.fst.snd.snd.snd.snd.snd.fst.fst kdT y36.snd.fst.snd.snd.snd.snd.snd.fst.snd, DV.val (Value.string y36.snd.fst.snd.snd.snd.snd.snd.snd.fst), DV.val (Value.bool y36.snd.fst.snd.snd.snd.snd.snd.snd.snd.fst), DV.val (Value.int IntKind.i64 y36.snd.fst.snd.snd.snd.snd.snd.snd.snd.snd.fst), DV.val (Value.string y36.snd.fst.snd.snd.snd.snd.snd.snd.snd.snd.snd.fst)]]), ()))))))))))), Sh.dflt (.ifc 93 (.agg [.i IntKind.i64, .i IntKind.i64])), (((y37.snd.fst.fst.fst, y37.snd.fst.fst.snd), (y37.snd.fst.snd.fst, ())), ()))
        else obind (parse_parser_must_v n (ByteArray.mk #[44]) y37.snd.fst.fst.fst y37.snd.fst.fst.snd y37.snd.fst.snd.fst) fun y38 =>
        bif y38.fst then
          some (true, Sh.dflt (.agg [.s, .b, .i IntKind.i64, .s, .s, .sl kdT, .s, .b, .i IntKind.i64, .s, .sl kdL]), (y38.snd.snd.fst.fst, (y38.snd.snd.fst.snd.fst, ())), (((y38.snd.snd.snd.fst.fst.fst, y38.snd.snd.snd.fst.fst.snd), (y38.snd.snd.snd.fst.snd.fst, ())), ()))
        else parse_parser_rule_l8 n b0 r1 j2 i0 y38.snd.snd.snd.fst.fst.fst y38.snd.snd.snd.fst.fst.snd y38.snd.snd.snd.fst.snd.fst s14 b15 j16 s17 s18 b19 r20 s21 b22 j23 s24 (b32 && List.isEmpty [[DV.val (Value.string y36.snd.fst.fst), DV.val (Value.bool y36.snd.fst.snd.fst), DV.val (Value.int IntKind.i64 y36.snd.fst.snd.snd.fst), DV.val (Value.string y36.snd.fst.snd.snd.snd.fst), DV.val (Value.string y36.snd.fst.snd.snd.snd.snd.fst), DV.sl y36.snd.fst.snd.snd.snd.snd.snd.fst.fst kdT y36.snd.fst.snd.snd.snd.snd.snd.fst.snd, DV.val (Value.string y36.snd.fst.snd.snd.snd.snd.snd.snd.fst), DV.val (Value.bool y36.snd.fst.snd.snd.snd.snd.snd.snd.snd.fst), DV.val (Value.int IntKind.i64 y36.snd.fst.snd.snd.snd.snd.snd.snd.snd.snd.fst), DV.val (Value.string y36.snd.fst.snd.snd.snd.snd.snd.snd.snd.snd.snd.fst)]]) (appX r33 [[DV.val (Value.string y36.snd.fst.fst), DV.val (Value.bool y36.snd.fst.snd.fst), DV.val (Value.int IntKind.i64 y36.snd.fst.snd.snd.fst), DV.val (Value.string y36.snd.fst.snd.snd.snd.fst), DV.val (Value.string y36.snd.fst.snd.snd.snd.snd.fst), DV.sl y36.snd.fst.snd.snd.snd.snd.snd.fst.fst kdT y36.snd.fst.snd.snd.snd.snd.snd.fst.snd, DV.val (Value.string y36.snd.fst.snd.snd.snd.snd.snd.snd.fst), DV.val (Value.bool y36.snd.fst.snd.snd.snd.snd.snd.snd.snd.fst), DV.val (Value.int IntKind.i64 y36.snd.fst.snd.snd.snd.snd.snd.snd.snd.snd.fst), DV.val (Value.string y36.snd.fst.snd.snd.snd.snd.snd.snd.snd.snd.snd.fst)]])
      else none
    else obind (parse_parser_literal_v n y34.snd.fst.fst.fst y34.snd.fst.fst.snd y34.snd.fst.snd.fst) fun y39 =>
    bif y39.fst then
      some (true, Sh.dflt (.agg [.s, .b, .i IntKind.i64, .s, .s, .sl kdT, .s, .b, .i IntKind.i64, .s, .sl kdL]), (y39.snd.snd.fst.fst, (y39.snd.snd.fst.snd.fst, ())), (((y39.snd.snd.snd.fst.fst.fst, y39.snd.snd.snd.fst.fst.snd), (y39.snd.snd.snd.fst.snd.fst, ())), ()))
    else if (List.length r33 + List.length [[DV.val (Value.string y39.snd.fst.fst), DV.val (Value.bool y39.snd.fst.snd.fst), DV.val (Value.int IntKind.i64 y39.snd.fst.snd.snd.fst), DV.val (Value.string y39.snd.fst.snd.snd.snd.fst), DV.val (Value.string y39.snd.fst.snd.snd.snd.snd.fst), DV.sl y39.snd.fst.snd.snd.snd.snd.snd.fst.fst kdT y39.snd.fst.snd.snd.snd.snd.snd.fst.snd, DV.val (Value.string y39.snd.fst.snd.snd.snd.snd.snd.snd.fst), DV.val (Value.bool y39.snd.fst.snd.snd.snd.snd.snd.snd.snd.fst), DV.val (Value.int IntKind.i64 y39.snd.fst.snd.snd.snd.snd.snd.snd.snd.snd.fst), DV.val (Value.string y39.snd.fst.snd.snd.snd.snd.snd.snd.snd.snd.snd.fst)]]) * 136 ≤ 140737488355328 then
      obind (parse_parser_pass_v n (ByteArray.mk #[46]) y39.snd.snd.snd.fst.fst.fst y39.snd.snd.snd.fst.fst.snd y39.snd.snd.snd.fst.snd.fst) fun y40 =>
      bif y40.fst then
        some (false, (s14, (b15, (j16, (s17, (s18, ((b19, r20), (s21, (b22, (j23, (s24, ((b32 && List.isEmpty [[DV.val (Value.string y39.snd.fst.fst), DV.val (Value.bool y39.snd.fst.snd.fst), DV.val (Value.int IntKind.i64 y39.snd.fst.snd.snd.fst), DV.val (Value.string y39.snd.fst.snd.snd.snd.fst), DV.val (Value.string y39.snd.fst.snd.snd.snd.snd.fst), DV.sl y39.snd.fst.snd.snd.snd.snd.snd.fst.fst kdT y39.snd.fst.snd.snd.snd.snd.snd.fst.snd, DV.val (Value.string y39.snd.fst.snd.snd.snd.snd.snd.snd.fst), DV.val (Value.bool y39.snd.fst.snd.snd.snd.snd.snd.snd.snd.fst), DV.val (Value.int IntKind.i64 y39.snd.fst.snd.snd.snd.snd.snd.snd.snd.snd.fst), DV.val (Value.string y39.snd.fst.snd.snd.snd.snd.snd.snd.snd.snd.snd.fst)]], appX r33 [[DV.val (Value.string y39.snd.fst.fst), DV.val (Value.bool y39.snd.fst.snd.fst), DV.val (Value.int IntKind.i64 y39.snd.fst.snd.snd.fst), DV.val (Value.string y39.snd.fst.snd.snd.snd.fst), DV.val (Value.string y39.snd.fst.snd.snd.snd.snd.fst), DV.sl y39.snd.fst.snd.snd.snd.snd.snd.fst.fst kdT y39.snd.fst.snd.snd.snd.snd.snd.fst.snd, DV.val (Value.string y39.snd.fst.snd.snd.snd.snd.snd.snd.fst), DV.val (Value.bool y39.snd.fst.snd.snd.snd.snd.snd.snd.snd.fst), DV.val (Value.int IntKind.i64 y39.snd.fst.snd.snd.snd.snd.snd.snd.snd.snd.fst), DV.val (Value.string y39.snd.fst.snd.snd.snd.snd.snd.snd.snd.snd.snd.fst)]]), ()))))))))))), Sh.dflt (.ifc 93 (.agg [.i IntKind.i64, .i IntKind.i64])), (((y40.snd.fst.fst.fst, y40.snd.fst.fst.snd), (y40.snd.fst.snd.fst, ())), ()))
      else obind (parse_parser_must_v n (ByteArray.mk #[44]) y40.snd.fst.fst.fst y40.snd.fst.fst.snd y40.snd.fst.snd.fst) fun y41 =>
      bif y41.fst then
        some (true, Sh.dflt (.agg [.s, .b, .i IntKind.i64, .s, .s, .sl kdT, .s, .b, .i IntKind.i64, .s, .sl kdL]), (y41.snd.snd.fst.fst, (y41.snd.snd.fst.snd.fst, ())), (((y41.snd.snd.snd.fst.fst.fst, y41.snd.snd.snd.fst.fst.snd), (y41.snd.snd.snd.fst.snd.fst, ())), ()))
      else parse_parser_rule_l8 n b0 r1 j2 i0 y41.snd.snd.snd.fst.fst.fst y41.snd.snd.snd.fst.fst.snd y41.snd.snd.snd.fst.snd.fst s14 b15 j16 s17 s18 b19 r20 s21 b22 j23 s24 (b32 && List.isEmpty [[DV.val (Value.string y39.snd.fst.fst), DV.val (Value.bool y39.snd.fst.snd.fst), DV.val (Value.int IntKind.i64 y39.snd.fst.snd.snd.fst), DV.val (Value.string y39.snd.fst.snd.snd.snd.fst), DV.val (Value.string y39.snd.fst.snd.snd.snd.snd.fst), DV.sl y39.snd.fst.snd.snd.snd.snd.snd.fst.fst kdT y39.snd.fst.snd.snd.snd.snd.snd.fst.snd, DV.val (Value.string y39.snd.fst.snd.snd.snd.snd.snd.snd.fst), DV.val (Value.bool y39.snd.fst.snd.snd.snd.snd.snd.snd.snd.fst), DV.val (Value.int IntKind.i64 y39.snd.fst.snd.snd.snd.snd.snd.snd.snd.snd.fst), DV.val (Value.string y39.snd.fst.snd.snd.snd.snd.snd.snd.snd.snd.snd.fst)]]) (appX r33 [[DV.val (Value.string y39.snd.fst.fst), DV.val (Value.bool y39.snd.fst.snd.fst), DV.val (Value.int IntKind.i64 y39.snd.fst.snd.snd.fst), DV.val (Value.string y39.snd.fst.snd.snd.snd.fst), DV.val (Value.string y39.snd.fst.snd.snd.snd.snd.fst), DV.sl y39.snd.fst.snd.snd.snd.snd.snd.fst.fst kdT y39.snd.fst.snd.snd.snd.snd.snd.fst.snd, DV.val (Value.string y39.snd.fst.snd.snd.snd.snd.snd.snd.fst), DV.val (Value.bool y39.snd.fst.snd.snd.snd.snd.snd.snd.snd.fst), DV.val (Value.int IntKind.i64 y39.snd.fst.snd.snd.snd.snd.snd.snd.snd.snd.fst), DV.val (Value.string y39.snd.fst.snd.snd.snd.snd.snd.snd.snd.snd.snd.fst)]])
    else none
  else obind (parse_parser_literal_v n y34.snd.fst.fst.fst y34.snd.fst.fst.snd y34.snd.fst.snd.fst) fun y42 =>
  bif y42.fst then
    some (true, Sh.dflt (.agg [.s, .b, .i IntKind.i64, .s, .s, .sl kdT, .s, .b, .i IntKind.i64, .s, .sl kdL]), (y42.snd.snd.fst.fst, (y42.snd.snd.fst.snd.fst, ())), (((y42.snd.snd.snd.fst.fst.fst, y42.snd.snd.snd.fst.fst.snd), (y42.snd.snd.snd.fst.snd.fst, ())), ()))
  else if (List.length r33 + List.length [[DV.val (Value.string y42.snd.fst.fst), DV.val (Value.bool y42.snd.fst.snd.fst), DV.val (Value.int IntKind.i64 y42.snd.fst.snd.snd.fst), DV.val (Value.string y42.snd.fst.snd.snd.snd.fst), DV.val (Value.string y42.snd.fst.snd.snd.snd.snd.fst), DV.sl y42.snd.fst.snd.snd.snd.snd.snd.fst.fst kdT y42.snd.fst.snd.snd.snd.snd.snd.fst.snd, DV.val (Value.string y42.snd.fst.snd.snd.snd.snd.snd.snd.fst), DV.val (Value.bool y42.snd.fst.snd.snd.snd.snd.snd.snd.snd.fst), DV.val (Value.int IntKind.i64 y42.snd.fst.snd.snd.snd.snd.snd.snd.snd.snd.fst), DV.val (Value.string y42.snd.fst.snd.snd.snd.snd.snd.snd.snd.snd.snd.fst)]]) * 136 ≤ 140737488355328 then
    obind (parse_parser_pass_v n (ByteArray.mk #[46]) y42.snd.snd.snd.fst.fst.fst y42.snd.snd.snd.fst.fst.snd y42.snd.snd.snd.fst.snd.fst) fun y43 =>
    bif y43.fst then
      some (false, (s14, (b15, (j16, (s17, (s18, ((b19, r20), (s21, (b22, (j23, (s24, ((b32 && List.isEmpty [[DV.val (Value.string y42.snd.fst.fst), DV.val (Value.bool y42.snd.fst.snd.fst), DV.val (Value.int IntKind.i64 y42.snd.fst.snd.snd.fst), DV.val (Value.string y42.snd.fst.snd.snd.snd.fst), DV.val (Value.string y42.snd.fst.snd.snd.snd.snd.fst), DV.sl y42.snd.fst.snd.snd.snd.snd.snd.fst.fst kdT y42.snd.fst.snd.snd.snd.snd.snd.fst.snd, DV.val (Value.string y42.snd.fst.snd.snd.snd.snd.snd.snd.fst), DV.val (Value.bool y42.snd.fst.snd.snd.snd.snd.snd.snd.snd.fst), DV.val (Value.int IntKind.i64 y42.snd.fst.snd.snd.snd.snd.snd.snd.snd.snd.fst), DV.val (Value.string y42.snd.fst.snd.snd.snd.snd.snd.snd.snd.snd.snd.fst)]], appX r33 [[DV.val (Value.string y42.snd.fst.fst), DV.val (Value.bool y42.snd.fst.snd.fst), DV.val (Value.int IntKind.i64 y42.snd.fst.snd.snd.fst), DV.val (Value.string y42.snd.fst.snd.snd.snd.fst), DV.val (Value.string y42.snd.fst.snd.snd.snd.snd.fst), DV.sl y42.snd.fst.snd.snd.snd.snd.snd.fst.fst kdT y42.snd.fst.snd.snd.snd.snd.snd.fst.snd, DV.val (Value.string y42.snd.fst.snd.snd.snd.snd.snd.snd.fst), DV.val (Value.bool y42.snd.fst.snd.snd.snd.snd.snd.snd.snd.fst), DV.val (Value.int IntKind.i64 y42.snd.fst.snd.snd.snd.snd.snd.snd.snd.snd.fst), DV.val (Value.string y42.snd.fst.snd.snd.snd.snd.snd.snd.snd.snd.snd.fst)]]), ()))))))))))), Sh.dflt (.ifc 93 (.agg [.i IntKind.i64, .i IntKind.i64])), (((y43.snd.fst.fst.fst, y43.snd.fst.fst.snd), (y43.snd.fst.snd.fst, ())), ()))
    else obind (parse_parser_must_v n (ByteArray.mk #[44]) y43.snd.fst.fst.fst y43.snd.fst.fst.snd y43.snd.fst.snd.fst) fun y44 =>
    bif y44.fst then
      some (true, Sh.dflt (.agg [.s, .b, .i IntKind.i64, .s, .s, .sl kdT, .s, .b, .i IntKind.i64, .s, .sl kdL]), (y44.snd.snd.fst.fst, (y44.snd.snd.fst.snd.fst, ())), (((y44.snd.snd.snd.fst.fst.fst, y44.snd.snd.snd.fst.fst.snd), (y44.snd.snd.snd.fst.snd.fst, ())), ()))
    else parse_parser_rule_l8 n b0 r1 j2 i0 y44.snd.snd.snd.fst.fst.fst y44.snd.snd.snd.fst.fst.snd y44.snd.snd.snd.fst.snd.fst s14 b15 j16 s17 s18 b19 r20 s21 b22 j23 s24 (b32 && List.isEmpty [[DV.val (Value.string y42.snd.fst.fst), DV.val (Value.bool y42.snd.fst.snd.fst), DV.val (Value.int IntKind.i64 y42.snd.fst.snd.snd.fst), DV.val (Value.string y42.snd.fst.snd.snd.snd.fst), DV.val (Value.string y42.snd.fst.snd.snd.snd.snd.fst), DV.sl y42.snd.fst.snd.snd.snd.snd.snd.fst.fst kdT y42.snd.fst.snd.snd.snd.snd.snd.fst.snd, DV.val (Value.string y42.snd.fst.snd.snd.snd.snd.snd.snd.fst), DV.val (Value.bool y42.snd.fst.snd.snd.snd.snd.snd.snd.snd.fst), DV.val (Value.int IntKind.i64 y42.snd.fst.snd.snd.snd.snd.snd.snd.snd.snd.fst), DV.val (Value.string y42.snd.fst.snd.snd.snd.snd.snd.snd.snd.snd.snd.fst)]]) (appX r33 [[DV.val (Value.string y42.snd.fst.fst), DV.val (Value.bool y42.snd.fst.snd.fst), DV.val (Value.int IntKind.i64 y42.snd.fst.snd.snd.fst), DV.val (Value.string y42.snd.fst.snd.snd.snd.fst), DV.val (Value.string y42.snd.fst.snd.snd.snd.snd.fst), DV.sl y42.snd.fst.snd.snd.snd.snd.snd.fst.fst kdT y42.snd.fst.snd.snd.snd.snd.snd.fst.snd, DV.val (Value.string y42.snd.fst.snd.snd.snd.snd.snd.snd.fst), DV.val (Value.bool y42.snd.fst.snd.snd.snd.snd.snd.snd.snd.fst), DV.val (Value.int IntKind.i64 y42.snd.fst.snd.snd.snd.snd.snd.snd.snd.snd.fst), DV.val (Value.string y42.snd.fst.snd.snd.snd.snd.snd.snd.snd.snd.snd.fst)]])
  else none := by kernel_rfl
theorem parse_parser_rule_e (n : Nat) (b0 : Bool) (r1 : Rows) (j2 : Int) : parse_parser_rule_v n b0 r1 j2 =
  obind (parse_parser_term_v n b0 r1 j2) fun y3 =>
  bif y3.fst then
    some (true, Sh.dflt (.agg [.s, .b, .i IntKind.i64, .s, .s, .sl kdT, .s, .b, .i IntKind.i64, .s, .sl kdL]), (y3.snd.snd.fst.fst, (y3.snd.snd.fst.snd.fst, ())), (((y3.snd.snd.snd.fst.fst.fst, y3.snd.snd.snd.fst.fst.snd), (y3.snd.snd.snd.fst.snd.fst, ())), ()))
  else obind (parse_parser_must_v n (ByteArray.mk #[58]) y3.snd.snd.snd.fst.fst.fst y3.snd.snd.snd.fst.fst.snd y3.snd.snd.snd.fst.snd.fst) fun y4 =>
  bif y4.fst then
    some (true, Sh.dflt (.agg [.s, .b, .i IntKind.i64, .s, .s, .sl kdT, .s, .b, .i IntKind.i64, .s, .sl kdL]), (y4.snd.snd.fst.fst, (y4.snd.snd.fst.snd.fst, ())), (((y4.snd.snd.snd.fst.fst.fst, y4.snd.snd.snd.fst.fst.snd), (y4.snd.snd.snd.fst.snd.fst, ())), ()))
  else obind (parse_parser_word_v n y4.snd.snd.snd.fst.fst.fst y4.snd.snd.snd.fst.fst.snd y4.snd.snd.snd.fst.snd.fst) fun y5 =>
  bif y5.fst then
    some (true, Sh.dflt (.agg [.s, .b, .i IntKind.i64, .s, .s, .sl kdT, .s, .b, .i IntKind.i64, .s, .sl kdL]), (y5.snd.snd.fst.fst, (y5.snd.snd.fst.snd.fst, ())), (((y5.snd.snd.snd.fst.fst.fst, y5.snd.snd.snd.fst.fst.snd), (y5.snd.snd.snd.fst.snd.fst, ())), ()))
  else obind (parse_parser_args_v n y5.snd.snd.snd.fst.fst.fst y5.snd.snd.snd.fst.fst.snd y5.snd.snd.snd.fst.snd.fst) fun y6 =>
  bif y6.fst then
    some (true, Sh.dflt (.agg [.s, .b, .i IntKind.i64, .s, .s, .sl kdT, .s, .b, .i IntKind.i64, .s, .sl kdL]), (y6.snd.snd.fst.fst, (y6.snd.snd.fst.snd.fst, ())), (((y6.snd.snd.snd.fst.fst.fst, y6.snd.snd.snd.fst.fst.snd), (y6.snd.snd.snd.fst.snd.fst, ())), ()))
  else obind (parse_parser_pass_v n (ByteArray.mk #[116, 111]) y6.snd.snd.snd.fst.fst.fst y6.snd.snd.snd.fst.fst.snd y6.snd.snd.snd.fst.snd.fst) fun y7 =>
  bif y7.fst then
    obind (parse_parser_term_v n y7.snd.fst.fst.fst y7.snd.fst.fst.snd y7.snd.fst.snd.fst) fun y8 =>
    bif y8.fst then
      some (true, Sh.dflt (.agg [.s, .b, .i IntKind.i64, .s, .s, .sl kdT, .s, .b, .i IntKind.i64, .s, .sl kdL]), (y8.snd.snd.fst.fst, (y8.snd.snd.fst.snd.fst, ())), (((y8.snd.snd.snd.fst.fst.fst, y8.snd.snd.snd.fst.fst.snd), (y8.snd.snd.snd.fst.snd.fst, ())), ()))
    else obind (parse_parser_must_v n (ByteArray.mk #[58, 45]) y8.snd.snd.snd.fst.fst.fst y8.snd.snd.snd.fst.fst.snd y8.snd.snd.snd.fst.snd.fst) fun y9 =>
    bif y9.fst then
      some (true, Sh.dflt (.agg [.s, .b, .i IntKind.i64, .s, .s, .sl kdT, .s, .b, .i IntKind.i64, .s, .sl kdL]), (y9.snd.snd.fst.fst, (y9.snd.snd.fst.snd.fst, ())), (((y9.snd.snd.snd.fst.fst.fst, y9.snd.snd.snd.fst.fst.snd), (y9.snd.snd.snd.fst.snd.fst, ())), ()))
    else parse_parser_rule_l8 n b0 r1 j2 n y9.snd.snd.snd.fst.fst.fst y9.snd.snd.snd.fst.fst.snd y9.snd.snd.snd.fst.snd.fst y3.snd.fst.fst y3.snd.fst.snd.fst y3.snd.fst.snd.snd.fst y3.snd.fst.snd.snd.snd.fst y5.snd.fst y6.snd.fst.fst y6.snd.fst.snd y8.snd.fst.fst y8.snd.fst.snd.fst y8.snd.fst.snd.snd.fst y8.snd.fst.snd.snd.snd.fst true []
  else obind (parse_parser_must_v n (ByteArray.mk #[58, 45]) y7.snd.fst.fst.fst y7.snd.fst.fst.snd y7.snd.fst.snd.fst) fun y10 =>
  bif y10.fst then
    some (true, Sh.dflt (.agg [.s, .b, .i IntKind.i64, .s, .s, .sl kdT, .s, .b, .i IntKind.i64, .s, .sl kdL]), (y10.snd.snd.fst.fst, (y10.snd.snd.fst.snd.fst, ())), (((y10.snd.snd.snd.fst.fst.fst, y10.snd.snd.snd.fst.fst.snd), (y10.snd.snd.snd.fst.snd.fst, ())), ()))
  else parse_parser_rule_l8 n b0 r1 j2 n y10.snd.snd.snd.fst.fst.fst y10.snd.snd.snd.fst.fst.snd y10.snd.snd.snd.fst.snd.fst y3.snd.fst.fst y3.snd.fst.snd.fst y3.snd.fst.snd.snd.fst y3.snd.fst.snd.snd.snd.fst y5.snd.fst y6.snd.fst.fst y6.snd.fst.snd (ByteArray.mk #[]) false 0 (ByteArray.mk #[]) true [] := by kernel_rfl
theorem parse_parser_rule_c (n : Nat) (b0 : Bool) (r1 : Rows) (j2 : Int) (y : Bool × (ByteArray × Bool × Int × ByteArray × ByteArray × (Bool × Rows) × ByteArray × Bool × Int × ByteArray × (Bool × Rows) × Unit) × (Int × Int × Unit) × ((Bool × Rows) × Int × Unit) × Unit) (h : parse_parser_rule_v n b0 r1 j2 = some y) : Contract Tryd.prog 54 [AV.pl 1000 0] [[AV.sl b0 kdK r1 Right.no, AV.dv (DV.val (Value.int IntKind.i64 j2))]] (OSh.enc (OSh.pan (.agg [.s, .b, .i IntKind.i64, .s, .s, .sl kdT, .s, .b, .i IntKind.i64, .s, .sl kdL]) (.ifc 93 (.agg [.i IntKind.i64, .i IntKind.i64])) [[.sl kdK, .i IntKind.i64]]) y) :=
  ac (OSh.pan (.agg [.s, .b, .i IntKind.i64, .s, .s, .sl kdT, .s, .b, .i IntKind.i64, .s, .sl kdL]) (.ifc 93 (.agg [.i IntKind.i64, .i IntKind.i64])) [[.sl kdK, .i IntKind.i64]]) (parse_parser_rule_σok n) Tryd.func54 (by decide) h
def parse_Program_lv : Live := [(6, [2, 3, 4, 6], [2, 3, 4, 21, 1000, 1001, 1002, 1003])]
noncomputable def parse_Program_σ (n : Nat) : Spec := (inst 50 [.s] [] (OSh.plain (.tup [.sl kdK, .i IntKind.i64, .i IntKind.i64]) []) (fun x e => lex_Tokens_v n x.1) (inst 52 [.pl 1000 0] [[.sl kdK, .i IntKind.i64]] (OSh.plain (.b) [[.sl kdK, .i IntKind.i64]]) (fun x e => parse_parser_begins_v n e.1.1.1 e.1.1.2 e.1.2.1) (inst 54 [.pl 1000 0] [[.sl kdK, .i IntKind.i64]] (OSh.pan (.agg [.s, .b, .i IntKind.i64, .s, .s, .sl kdT, .s, .b, .i IntKind.i64, .s, .sl kdL]) (.ifc 93 (.agg [.i IntKind.i64, .i IntKind.i64])) [[.sl kdK, .i IntKind.i64]]) (fun x e => parse_parser_rule_v n e.1.1.1 e.1.1.2 e.1.2.1) (inst 53 [.pl 1000 0, .i IntKind.i64] [[.sl kdK, .i IntKind.i64]] (OSh.pan (.junk) (.ifc 93 (.agg [.i IntKind.i64, .i IntKind.i64])) [[.sl kdK, .i IntKind.i64]]) (fun x e => parse_parser_fail_v n x.2.1 e.1.1.1 e.1.1.2 e.1.2.1) Spec.none))))
theorem parse_Program_σok (n : Nat) : SpecOk Tryd.prog (parse_Program_σ n) := (inst_ok (fun x e y h => lex_Tokens_c n x.1 y h) (inst_ok (fun x e y h => parse_parser_begins_c n e.1.1.1 e.1.1.2 e.1.2.1 y h) (inst_ok (fun x e y h => parse_parser_rule_c n e.1.1.1 e.1.1.2 e.1.2.1 y h) (inst_ok (fun x e y h => parse_parser_fail_c n x.2.1 e.1.1.1 e.1.1.2 e.1.2.1 y h) (SpecOk.none _)))))
noncomputable def parse_Program_Φ (n : Nat) : Orc := with_ Tryd.prog (parse_Program_σ n) [] n 0 hsL
noncomputable def parse_Program_v (n : Nat) (s0 : ByteArray) : Option (((Bool × Rows) × Int × Int × Unit) × Unit) :=
  DM.denFnD tm (parse_Program_Φ n) parse_Program_lv n Tryd.f24 Tryd.f51 51 ([]) [AV.dv (DV.val (Value.string s0))] (OSh.chk (OSh.plain (.tup [.sl kdR, .i IntKind.i64, .i IntKind.i64]) []))
noncomputable def parse_Program_l6 (n : Nat) (s0 : ByteArray) (i0 : Nat) (b2 : Bool) (r3 : List (List DV)) (j4 : Int) (j5 : Int) (j9 : Int) (b10 : Bool) (r11 : List (List DV)) : Option (((Bool × Rows) × Int × Int × Unit) × Unit) :=
  DM.loopFnD tm (parse_Program_Φ n) parse_Program_lv n Tryd.f24 Tryd.f51 51 ([]) [.pl 1001 0, .pl 1002 0, .pl 1003 0] (OSh.chk (OSh.plain (.tup [.sl kdR, .i IntKind.i64, .i IntKind.i64]) [])) 6 [] i0 (St.mk [Jk, Jk, AV.pl 1001 0, AV.pl 1002 0, AV.pl 1003 0, Jk, AV.pl 1000 0, Jk, Jk, Jk, Jk, Jk, Jk, Jk, Jk, Jk, Jk, Jk, Jk, Jk, Jk, Jk, Jk, Jk, Jk, Jk, Jk, Jk, Jk, Jk, Jk, Jk, Jk, Jk, Jk, Jk, Jk, Jk, Jk, Jk, Jk, Jk, Jk, Jk] [(1000, [AV.sl b2 kdK r3 Right.no, AV.dv (DV.val (Value.int IntKind.i64 j9))]), (1001, [AV.sl b10 kdR r11 (Right.tok 84064)]), (1002, [AV.dv (DV.val (Value.int IntKind.i64 j4))]), (1003, [AV.dv (DV.val (Value.int IntKind.i64 j5))])])
theorem parse_Program_s6 (n : Nat) (s0 : ByteArray) (i0 : Nat) (b2 : Bool) (r3 : List (List DV)) (j4 : Int) (j5 : Int) (j9 : Int) (b10 : Bool) (r11 : List (List DV)) : parse_Program_l6 n s0 (i0 + 1) b2 r3 j4 j5 j9 b10 r11 =
  bif decide ((↑(List.length r3) : Int) > 0) then
    obind (parse_parser_begins_v n b2 r3 j9) fun y12 =>
    bif y12.fst then
      bif (↑(List.length r11) : Int) == 16 then
        obind (parse_parser_fail_v n 81 y12.snd.fst.fst.fst y12.snd.fst.fst.snd y12.snd.fst.snd.fst) fun y13 =>
        bif y13.fst then
          some (((true, []), (y13.snd.snd.fst.fst, (y13.snd.snd.fst.snd.fst, ()))), ())
        else obind (parse_parser_rule_v n y13.snd.snd.snd.fst.fst.fst y13.snd.snd.snd.fst.fst.snd y13.snd.snd.snd.fst.snd.fst) fun y14 =>
        bif y14.fst then
          some (((true, []), (y14.snd.snd.fst.fst, (y14.snd.snd.fst.snd.fst, ()))), ())
        else if (List.length r11 + List.length [[DV.val (Value.string y14.snd.fst.fst), DV.val (Value.bool y14.snd.fst.snd.fst), DV.val (Value.int IntKind.i64 y14.snd.fst.snd.snd.fst), DV.val (Value.string y14.snd.fst.snd.snd.snd.fst), DV.val (Value.string y14.snd.fst.snd.snd.snd.snd.fst), DV.sl y14.snd.fst.snd.snd.snd.snd.snd.fst.fst kdT y14.snd.fst.snd.snd.snd.snd.snd.fst.snd, DV.val (Value.string y14.snd.fst.snd.snd.snd.snd.snd.snd.fst), DV.val (Value.bool y14.snd.fst.snd.snd.snd.snd.snd.snd.snd.fst), DV.val (Value.int IntKind.i64 y14.snd.fst.snd.snd.snd.snd.snd.snd.snd.snd.fst), DV.val (Value.string y14.snd.fst.snd.snd.snd.snd.snd.snd.snd.snd.snd.fst), DV.sl y14.snd.fst.snd.snd.snd.snd.snd.snd.snd.snd.snd.snd.fst.fst kdL y14.snd.fst.snd.snd.snd.snd.snd.snd.snd.snd.snd.snd.fst.snd]]) * 160 ≤ 140737488355328 then
          parse_Program_l6 n s0 i0 y14.snd.snd.snd.fst.fst.fst y14.snd.snd.snd.fst.fst.snd j4 j5 y14.snd.snd.snd.fst.snd.fst (b10 && List.isEmpty [[DV.val (Value.string y14.snd.fst.fst), DV.val (Value.bool y14.snd.fst.snd.fst), DV.val (Value.int IntKind.i64 y14.snd.fst.snd.snd.fst), DV.val (Value.string y14.snd.fst.snd.snd.snd.fst), DV.val (Value.string y14.snd.fst.snd.snd.snd.snd.fst), DV.sl y14.snd.fst.snd.snd.snd.snd.snd.fst.fst kdT y14.snd.fst.snd.snd.snd.snd.snd.fst.snd, DV.val (Value.string y14.snd.fst.snd.snd.snd.snd.snd.snd.fst), DV.val (Value.bool y14.snd.fst.snd.snd.snd.snd.snd.snd.snd.fst), DV.val (Value.int IntKind.i64 y14.snd.fst.snd.snd.snd.snd.snd.snd.snd.snd.fst), DV.val (Value.string y14.snd.fst.snd.snd.snd.snd.snd.snd.snd.snd.snd.fst), DV.sl y14.snd.fst.snd.snd.snd.snd.snd.snd.snd.snd.snd.snd.fst.fst kdL y14.snd.fst.snd.snd.snd.snd.snd.snd.snd.snd.snd.snd.fst.snd]]) (appX r11 [[DV.val (Value.string y14.snd.fst.fst), DV.val (Value.bool y14.snd.fst.snd.fst), DV.val (Value.int IntKind.i64 y14.snd.fst.snd.snd.fst), DV.val (Value.string y14.snd.fst.snd.snd.snd.fst), DV.val (Value.string y14.snd.fst.snd.snd.snd.snd.fst), DV.sl y14.snd.fst.snd.snd.snd.snd.snd.fst.fst kdT y14.snd.fst.snd.snd.snd.snd.snd.fst.snd, DV.val (Value.string y14.snd.fst.snd.snd.snd.snd.snd.snd.fst), DV.val (Value.bool y14.snd.fst.snd.snd.snd.snd.snd.snd.snd.fst), DV.val (Value.int IntKind.i64 y14.snd.fst.snd.snd.snd.snd.snd.snd.snd.snd.fst), DV.val (Value.string y14.snd.fst.snd.snd.snd.snd.snd.snd.snd.snd.snd.fst), DV.sl y14.snd.fst.snd.snd.snd.snd.snd.snd.snd.snd.snd.snd.fst.fst kdL y14.snd.fst.snd.snd.snd.snd.snd.snd.snd.snd.snd.snd.fst.snd]])
        else none
      else obind (parse_parser_rule_v n y12.snd.fst.fst.fst y12.snd.fst.fst.snd y12.snd.fst.snd.fst) fun y15 =>
      bif y15.fst then
        some (((true, []), (y15.snd.snd.fst.fst, (y15.snd.snd.fst.snd.fst, ()))), ())
      else if (List.length r11 + List.length [[DV.val (Value.string y15.snd.fst.fst), DV.val (Value.bool y15.snd.fst.snd.fst), DV.val (Value.int IntKind.i64 y15.snd.fst.snd.snd.fst), DV.val (Value.string y15.snd.fst.snd.snd.snd.fst), DV.val (Value.string y15.snd.fst.snd.snd.snd.snd.fst), DV.sl y15.snd.fst.snd.snd.snd.snd.snd.fst.fst kdT y15.snd.fst.snd.snd.snd.snd.snd.fst.snd, DV.val (Value.string y15.snd.fst.snd.snd.snd.snd.snd.snd.fst), DV.val (Value.bool y15.snd.fst.snd.snd.snd.snd.snd.snd.snd.fst), DV.val (Value.int IntKind.i64 y15.snd.fst.snd.snd.snd.snd.snd.snd.snd.snd.fst), DV.val (Value.string y15.snd.fst.snd.snd.snd.snd.snd.snd.snd.snd.snd.fst), DV.sl y15.snd.fst.snd.snd.snd.snd.snd.snd.snd.snd.snd.snd.fst.fst kdL y15.snd.fst.snd.snd.snd.snd.snd.snd.snd.snd.snd.snd.fst.snd]]) * 160 ≤ 140737488355328 then
        parse_Program_l6 n s0 i0 y15.snd.snd.snd.fst.fst.fst y15.snd.snd.snd.fst.fst.snd j4 j5 y15.snd.snd.snd.fst.snd.fst (b10 && List.isEmpty [[DV.val (Value.string y15.snd.fst.fst), DV.val (Value.bool y15.snd.fst.snd.fst), DV.val (Value.int IntKind.i64 y15.snd.fst.snd.snd.fst), DV.val (Value.string y15.snd.fst.snd.snd.snd.fst), DV.val (Value.string y15.snd.fst.snd.snd.snd.snd.fst), DV.sl y15.snd.fst.snd.snd.snd.snd.snd.fst.fst kdT y15.snd.fst.snd.snd.snd.snd.snd.fst.snd, DV.val (Value.string y15.snd.fst.snd.snd.snd.snd.snd.snd.fst), DV.val (Value.bool y15.snd.fst.snd.snd.snd.snd.snd.snd.snd.fst), DV.val (Value.int IntKind.i64 y15.snd.fst.snd.snd.snd.snd.snd.snd.snd.snd.fst), DV.val (Value.string y15.snd.fst.snd.snd.snd.snd.snd.snd.snd.snd.snd.fst), DV.sl y15.snd.fst.snd.snd.snd.snd.snd.snd.snd.snd.snd.snd.fst.fst kdL y15.snd.fst.snd.snd.snd.snd.snd.snd.snd.snd.snd.snd.fst.snd]]) (appX r11 [[DV.val (Value.string y15.snd.fst.fst), DV.val (Value.bool y15.snd.fst.snd.fst), DV.val (Value.int IntKind.i64 y15.snd.fst.snd.snd.fst), DV.val (Value.string y15.snd.fst.snd.snd.snd.fst), DV.val (Value.string y15.snd.fst.snd.snd.snd.snd.fst), DV.sl y15.snd.fst.snd.snd.snd.snd.snd.fst.fst kdT y15.snd.fst.snd.snd.snd.snd.snd.fst.snd, DV.val (Value.string y15.snd.fst.snd.snd.snd.snd.snd.snd.fst), DV.val (Value.bool y15.snd.fst.snd.snd.snd.snd.snd.snd.snd.fst), DV.val (Value.int IntKind.i64 y15.snd.fst.snd.snd.snd.snd.snd.snd.snd.snd.fst), DV.val (Value.string y15.snd.fst.snd.snd.snd.snd.snd.snd.snd.snd.snd.fst), DV.sl y15.snd.fst.snd.snd.snd.snd.snd.snd.snd.snd.snd.snd.fst.fst kdL y15.snd.fst.snd.snd.snd.snd.snd.snd.snd.snd.snd.snd.fst.snd]])
      else none
    else obind (parse_parser_rule_v n y12.snd.fst.fst.fst y12.snd.fst.fst.snd y12.snd.fst.snd.fst) fun y16 =>
    bif y16.fst then
      some (((true, []), (y16.snd.snd.fst.fst, (y16.snd.snd.fst.snd.fst, ()))), ())
    else if (List.length r11 + List.length [[DV.val (Value.string y16.snd.fst.fst), DV.val (Value.bool y16.snd.fst.snd.fst), DV.val (Value.int IntKind.i64 y16.snd.fst.snd.snd.fst), DV.val (Value.string y16.snd.fst.snd.snd.snd.fst), DV.val (Value.string y16.snd.fst.snd.snd.snd.snd.fst), DV.sl y16.snd.fst.snd.snd.snd.snd.snd.fst.fst kdT y16.snd.fst.snd.snd.snd.snd.snd.fst.snd, DV.val (Value.string y16.snd.fst.snd.snd.snd.snd.snd.snd.fst), DV.val (Value.bool y16.snd.fst.snd.snd.snd.snd.snd.snd.snd.fst), DV.val (Value.int IntKind.i64 y16.snd.fst.snd.snd.snd.snd.snd.snd.snd.snd.fst), DV.val (Value.string y16.snd.fst.snd.snd.snd.snd.snd.snd.snd.snd.snd.fst), DV.sl y16.snd.fst.snd.snd.snd.snd.snd.snd.snd.snd.snd.snd.fst.fst kdL y16.snd.fst.snd.snd.snd.snd.snd.snd.snd.snd.snd.snd.fst.snd]]) * 160 ≤ 140737488355328 then
      parse_Program_l6 n s0 i0 y16.snd.snd.snd.fst.fst.fst y16.snd.snd.snd.fst.fst.snd j4 j5 y16.snd.snd.snd.fst.snd.fst (b10 && List.isEmpty [[DV.val (Value.string y16.snd.fst.fst), DV.val (Value.bool y16.snd.fst.snd.fst), DV.val (Value.int IntKind.i64 y16.snd.fst.snd.snd.fst), DV.val (Value.string y16.snd.fst.snd.snd.snd.fst), DV.val (Value.string y16.snd.fst.snd.snd.snd.snd.fst), DV.sl y16.snd.fst.snd.snd.snd.snd.snd.fst.fst kdT y16.snd.fst.snd.snd.snd.snd.snd.fst.snd, DV.val (Value.string y16.snd.fst.snd.snd.snd.snd.snd.snd.fst), DV.val (Value.bool y16.snd.fst.snd.snd.snd.snd.snd.snd.snd.fst), DV.val (Value.int IntKind.i64 y16.snd.fst.snd.snd.snd.snd.snd.snd.snd.snd.fst), DV.val (Value.string y16.snd.fst.snd.snd.snd.snd.snd.snd.snd.snd.snd.fst), DV.sl y16.snd.fst.snd.snd.snd.snd.snd.snd.snd.snd.snd.snd.fst.fst kdL y16.snd.fst.snd.snd.snd.snd.snd.snd.snd.snd.snd.snd.fst.snd]]) (appX r11 [[DV.val (Value.string y16.snd.fst.fst), DV.val (Value.bool y16.snd.fst.snd.fst), DV.val (Value.int IntKind.i64 y16.snd.fst.snd.snd.fst), DV.val (Value.string y16.snd.fst.snd.snd.snd.fst), DV.val (Value.string y16.snd.fst.snd.snd.snd.snd.fst), DV.sl y16.snd.fst.snd.snd.snd.snd.snd.fst.fst kdT y16.snd.fst.snd.snd.snd.snd.snd.fst.snd, DV.val (Value.string y16.snd.fst.snd.snd.snd.snd.snd.snd.fst), DV.val (Value.bool y16.snd.fst.snd.snd.snd.snd.snd.snd.snd.fst), DV.val (Value.int IntKind.i64 y16.snd.fst.snd.snd.snd.snd.snd.snd.snd.snd.fst), DV.val (Value.string y16.snd.fst.snd.snd.snd.snd.snd.snd.snd.snd.snd.fst), DV.sl y16.snd.fst.snd.snd.snd.snd.snd.snd.snd.snd.snd.snd.fst.fst kdL y16.snd.fst.snd.snd.snd.snd.snd.snd.snd.snd.snd.snd.fst.snd]])
    else none
  else some (((b10, r11), (0, (0, ()))), ()) := by kernel_rfl
theorem parse_Program_e (n : Nat) (s0 : ByteArray) : parse_Program_v n s0 =
  obind (lex_Tokens_v n s0) fun y1 =>
  bif y1.fst.snd.snd.fst != 0 then
    some (((true, []), (y1.fst.snd.fst, (y1.fst.snd.snd.fst, ()))), ())
  else parse_Program_l6 n s0 n y1.fst.fst.fst y1.fst.fst.snd y1.fst.snd.fst y1.fst.snd.snd.fst ((↑(ByteArray.size s0) : Int)) true [] := by kernel_rfl
theorem parse_Program_c (n : Nat) (s0 : ByteArray) (y : ((Bool × Rows) × Int × Int × Unit) × Unit) (h : parse_Program_v n s0 = some y) : Contract Tryd.prog 24 [AV.dv (DV.val (Value.string s0))] [] (OSh.enc (OSh.plain (.tup [.sl kdR, .i IntKind.i64, .i IntKind.i64]) []) y) :=
  autoD_okM tm_std (with_ok mixed (by kernel_rfl) (parse_Program_σok n) n 0 hsL) mixed Tryd.func24 (by decide) Tryd.func51 (by decide) (by decide) (o := (OSh.plain (.tup [.sl kdR, .i IntKind.i64, .i IntKind.i64]) [])) h
def show_variable_lv : Live := []
noncomputable def show_variable_σ (n : Nat) : Spec := (inst 50 [.s] [] (OSh.plain (.tup [.sl kdK, .i IntKind.i64, .i IntKind.i64]) []) (fun x e => lex_Tokens_v n x.1) Spec.none)
theorem show_variable_σok (n : Nat) : SpecOk Tryd.prog (show_variable_σ n) := (inst_ok (fun x e y h => lex_Tokens_c n x.1 y h) (SpecOk.none _))
noncomputable def show_variable_Φ (n : Nat) : Orc := with_ Tryd.prog (show_variable_σ n) [] n 0 hsL
noncomputable def show_variable_v (n : Nat) (s0 : ByteArray) : Option (Bool × Unit) :=
  DM.denFn tm (show_variable_Φ n) show_variable_lv n Tryd.f34 false [AV.dv (DV.val (Value.string s0))] [] (OSh.chk (OSh.plain (.b) []))
theorem show_variable_e (n : Nat) (s0 : ByteArray) : show_variable_v n s0 =
  obind (lex_Tokens_v n s0) fun y1 =>
  bif y1.fst.snd.snd.fst == 0 then
    bif (↑(List.length y1.fst.fst.snd) : Int) == 1 then
      if 0 < (↑(List.length y1.fst.fst.snd) : Int) then
        bif Row.I (List.getD y1.fst.fst.snd 0 []) 0 == 2 then
          if 0 < (↑(List.length y1.fst.fst.snd) : Int) then
            some (Row.S (List.getD y1.fst.fst.snd 0 []) 1 == s0, ())
          else none
        else some (false, ())
      else none
    else some (false, ())
  else some (false, ()) := by kernel_rfl
theorem show_variable_c (n : Nat) (s0 : ByteArray) (y : Bool × Unit) (h : show_variable_v n s0 = some y) : Contract Tryd.prog 34 [AV.dv (DV.val (Value.string s0))] [] (OSh.enc (OSh.plain (.b) []) y) :=
  ac (OSh.plain (.b) []) (show_variable_σok n) Tryd.func34 (by decide) h
def show_plain_lv : Live := [(2, [0, 5, 6], [1000, 1001, 1002, 1003])]
noncomputable def show_plain_σ (n : Nat) : Spec := Spec.none
theorem show_plain_σok (n : Nat) : SpecOk Tryd.prog (show_plain_σ n) := (SpecOk.none _)
noncomputable def show_plain_Φ (n : Nat) : Orc := with_ Tryd.prog (show_plain_σ n) [] n 0 hsL
noncomputable def show_plain_v (n : Nat) (s0 : ByteArray) : Option (Bool × Unit) :=
  DM.denFn tm (show_plain_Φ n) show_plain_lv n Tryd.f36 false [AV.dv (DV.val (Value.string s0))] [] (OSh.chk (OSh.plain (.b) []))
noncomputable def show_plain_l2 (n : Nat) (s0 : ByteArray) (i0 : Nat) (j1 : Int) : Option (Bool × Unit) :=
  DM.loopFn tm (show_plain_Φ n) show_plain_lv n Tryd.f36 false [] (OSh.chk (OSh.plain (.b) [])) 2 [] i0 (St.mk [AV.dv (DV.val (Value.string s0)), Jk, Jk, Jk, Jk, AV.dv (DV.val (Value.int IntKind.i64 (↑(ByteArray.size s0) : Int))), AV.dv (DV.val (Value.int IntKind.i64 j1)), Jk, Jk, Jk, Jk, Jk, Jk, Jk, Jk, Jk, Jk, Jk, Jk, Jk, Jk, Jk, Jk, Jk, Jk, Jk, Jk, Jk, Jk, Jk, Jk, Jk, Jk, Jk, Jk, Jk, Jk, Jk, Jk, Jk] [])
theorem show_plain_s2 (n : Nat) (s0 : ByteArray) (i0 : Nat) (j1 : Int) : show_plain_l2 n s0 (i0 + 1) j1 =
  bif decide (j1 < (↑(ByteArray.size s0) : Int)) then
    if 0 ≤ j1 then
      if j1 < (↑(ByteArray.size s0) : Int) then
        bif decide (bt s0 j1 < 32) then
          some (false, ())
        else if 0 ≤ j1 then
          if j1 < (↑(ByteArray.size s0) : Int) then
            bif decide (bt s0 j1 > 126) then
              some (false, ())
            else if 0 ≤ j1 then
              if j1 < (↑(ByteArray.size s0) : Int) then
                bif bt s0 j1 == 34 then
                  some (false, ())
                else if 0 ≤ j1 then
                  if j1 < (↑(ByteArray.size s0) : Int) then
                    bif bt s0 j1 == 92 then
                      some (false, ())
                    else show_plain_l2 n s0 i0 (IntKind.wrap IntKind.i64 (j1 + 1))
                  else none
                else none
              else none
            else none
          else none
        else none
      else none
    else none
  else bif decide ((↑(ByteArray.size s0) : Int) ≥ 1) then
    some (decide ((↑(ByteArray.size s0) : Int) ≤ 32), ())
  else some (false, ()) := by kernel_rfl
theorem show_plain_e (n : Nat) (s0 : ByteArray) : show_plain_v n s0 =
  show_plain_l2 n s0 n 0 := by kernel_rfl
theorem show_plain_c (n : Nat) (s0 : ByteArray) (y : Bool × Unit) (h : show_plain_v n s0 = some y) : Contract Tryd.prog 36 [AV.dv (DV.val (Value.string s0))] [] (OSh.enc (OSh.plain (.b) []) y) :=
  ac (OSh.plain (.b) []) (show_plain_σok n) Tryd.func36 (by decide) h
def show_word_lv : Live := []
noncomputable def show_word_σ (n : Nat) : Spec := (inst 50 [.s] [] (OSh.plain (.tup [.sl kdK, .i IntKind.i64, .i IntKind.i64]) []) (fun x e => lex_Tokens_v n x.1) Spec.none)
theorem show_word_σok (n : Nat) : SpecOk Tryd.prog (show_word_σ n) := (inst_ok (fun x e y h => lex_Tokens_c n x.1 y h) (SpecOk.none _))
noncomputable def show_word_Φ (n : Nat) : Orc := with_ Tryd.prog (show_word_σ n) [] n 0 hsL
noncomputable def show_word_v (n : Nat) (s0 : ByteArray) : Option (Bool × Unit) :=
  DM.denFn tm (show_word_Φ n) show_word_lv n Tryd.f37 false [AV.dv (DV.val (Value.string s0))] [] (OSh.chk (OSh.plain (.b) []))
theorem show_word_e (n : Nat) (s0 : ByteArray) : show_word_v n s0 =
  obind (lex_Tokens_v n s0) fun y1 =>
  bif y1.fst.snd.snd.fst == 0 then
    bif (↑(List.length y1.fst.fst.snd) : Int) == 1 then
      if 0 < (↑(List.length y1.fst.fst.snd) : Int) then
        bif Row.I (List.getD y1.fst.fst.snd 0 []) 0 == 1 then
          if 0 < (↑(List.length y1.fst.fst.snd) : Int) then
            bif Row.S (List.getD y1.fst.fst.snd 0 []) 1 == s0 then
              bif !s0 == ByteArray.mk #[115, 97, 121, 115] then
                bif !s0 == ByteArray.mk #[116, 111] then
                  some (!s0 == ByteArray.mk #[97, 116], ())
                else some (false, ())
              else some (false, ())
            else some (false, ())
          else none
        else some (false, ())
      else none
    else some (false, ())
  else some (false, ()) := by kernel_rfl
theorem show_word_c (n : Nat) (s0 : ByteArray) (y : Bool × Unit) (h : show_word_v n s0 = some y) : Contract Tryd.prog 37 [AV.dv (DV.val (Value.string s0))] [] (OSh.enc (OSh.plain (.b) []) y) :=
  ac (OSh.plain (.b) []) (show_word_σok n) Tryd.func37 (by decide) h
end Go.Den
namespace Go.Den
open Go.Proofs
set_option maxRecDepth 100000
def show_Term_lv : Live := []
noncomputable def show_Term_σ (n : Nat) : Spec := (inst 34 [.s] [] (OSh.plain (.b) []) (fun x e => show_variable_v n x.1) (inst 35 [.i IntKind.i64] [] (OSh.plain (.s) []) (fun x e => strconv_Itoa_v n x.1) (inst 36 [.s] [] (OSh.plain (.b) []) (fun x e => show_plain_v n x.1) (inst 37 [.s] [] (OSh.plain (.b) []) (fun x e => show_word_v n x.1) Spec.none))))
theorem show_Term_σok (n : Nat) : SpecOk Tryd.prog (show_Term_σ n) := (inst_ok (fun x e y h => show_variable_c n x.1 y h) (inst_ok (fun x e y h => strconv_Itoa_c n x.1 y h) (inst_ok (fun x e y h => show_plain_c n x.1 y h) (inst_ok (fun x e y h => show_word_c n x.1 y h) (SpecOk.none _)))))
noncomputable def show_Term_Φ (n : Nat) : Orc := with_ Tryd.prog (show_Term_σ n) [] n 0 hsL
noncomputable def show_Term_v (n : Nat) (s0 : ByteArray) (b1 : Bool) (j2 : Int) (s3 : ByteArray) : Option ((ByteArray × Int × Unit) × Unit) :=
  DM.denFn tm (show_Term_Φ n) show_Term_lv n Tryd.f13 false [AV.agg [AV.dv (DV.val (Value.string s0)), AV.dv (DV.val (Value.bool b1)), AV.dv (DV.val (Value.int IntKind.i64 j2)), AV.dv (DV.val (Value.string s3))]] [] (OSh.chk (OSh.plain (.tup [.s, .i IntKind.i64]) []))
theorem show_Term_e (n : Nat) (s0 : ByteArray) (b1 : Bool) (j2 : Int) (s3 : ByteArray) : show_Term_v n s0 b1 j2 s3 =
  bif !s0 == ByteArray.mk #[] then
    bif !(b1 == false && (j2 == 0 && (s3 == ByteArray.mk #[] && true))) then
      some ((ByteArray.mk #[], (100, ())), ())
    else obind (show_variable_v n s0) fun y4 =>
    bif !y4.fst then
      some ((ByteArray.mk #[], (100, ())), ())
    else some ((s0, (0, ())), ())
  else bif b1 then
    bif s3 == ByteArray.mk #[] then
      obind (strconv_Itoa_v n j2) fun y5 =>
      some ((y5.fst, (0, ())), ())
    else bif b1 then
      some ((ByteArray.mk #[], (100, ())), ())
    else bif j2 != 0 then
      some ((ByteArray.mk #[], (100, ())), ())
    else obind (show_plain_v n s3) fun y6 =>
    bif !y6.fst then
      some ((ByteArray.mk #[], (100, ())), ())
    else obind (show_word_v n s3) fun y7 =>
    bif y7.fst then
      some ((s3, (0, ())), ())
    else if 1 + ByteArray.size s3 < 4611686018427387904 then
      if ByteArray.size (ByteArray.mk #[34] ++ s3) + 1 < 4611686018427387904 then
        some ((ByteArray.mk #[34] ++ s3 ++ ByteArray.mk #[34], (0, ())), ())
      else none
    else none
  else bif b1 then
    some ((ByteArray.mk #[], (100, ())), ())
  else bif j2 != 0 then
    some ((ByteArray.mk #[], (100, ())), ())
  else obind (show_plain_v n s3) fun y8 =>
  bif !y8.fst then
    some ((ByteArray.mk #[], (100, ())), ())
  else obind (show_word_v n s3) fun y9 =>
  bif y9.fst then
    some ((s3, (0, ())), ())
  else if 1 + ByteArray.size s3 < 4611686018427387904 then
    if ByteArray.size (ByteArray.mk #[34] ++ s3) + 1 < 4611686018427387904 then
      some ((ByteArray.mk #[34] ++ s3 ++ ByteArray.mk #[34], (0, ())), ())
    else none
  else none := by kernel_rfl
theorem show_Term_c (n : Nat) (s0 : ByteArray) (b1 : Bool) (j2 : Int) (s3 : ByteArray) (y : (ByteArray × Int × Unit) × Unit) (h : show_Term_v n s0 b1 j2 s3 = some y) : Contract Tryd.prog 13 [AV.agg [AV.dv (DV.val (Value.string s0)), AV.dv (DV.val (Value.bool b1)), AV.dv (DV.val (Value.int IntKind.i64 j2)), AV.dv (DV.val (Value.string s3))]] [] (OSh.enc (OSh.plain (.tup [.s, .i IntKind.i64]) []) y) :=
  ac (OSh.plain (.tup [.s, .i IntKind.i64]) []) (show_Term_σok n) Tryd.func13 (by decide) h
def strings_Builder_WriteString_nilp_lv : Live := []
noncomputable def strings_Builder_WriteString_nilp_σ (n : Nat) : Spec := (inst 67 [.pl 1000 0] [[.nilp, .slt [Kd.i IntKind.u8] 500002, .b]] (OSh.plain (.tup []) [[.pl 1000 0, .slt [Kd.i IntKind.u8] 1, .b]]) (fun x e => strings_Builder_copyCheck_nilp_v n e.1.2.1.1 e.1.2.1.2 e.1.2.2.1) Spec.none)
theorem strings_Builder_WriteString_nilp_σok (n : Nat) : SpecOk Tryd.prog (strings_Builder_WriteString_nilp_σ n) := (inst_ok (fun x e y h => strings_Builder_copyCheck_nilp_c n e.1.2.1.1 e.1.2.1.2 e.1.2.2.1 y h) (SpecOk.none _))
noncomputable def strings_Builder_WriteString_nilp_Φ (n : Nat) : Orc := with_ Tryd.prog (strings_Builder_WriteString_nilp_σ n) [] n 0 hsL
noncomputable def strings_Builder_WriteString_nilp_v (n : Nat) (s0 : ByteArray) (b1 : Bool) (r2 : Rows) (b3 : Bool) : Option ((Int × Unit × Unit) × (Unit × (Bool × Rows) × Bool × Unit) × Unit) :=
  DM.denFn tm (strings_Builder_WriteString_nilp_Φ n) strings_Builder_WriteString_nilp_lv n Tryd.f43 false [AV.pl 1000 0, AV.dv (DV.val (Value.string s0))] [[AV.dv (DV.val (Value.pointer none)), AV.sl b1 [Kd.i IntKind.u8] r2 (Right.tok 500003), AV.dv (DV.val (Value.bool b3))]] (OSh.chk (OSh.plain (.tup [.i IntKind.i64, .nili]) [[.pl 1000 0, .slt [Kd.i IntKind.u8] 1, .b]]))
theorem strings_Builder_WriteString_nilp_e (n : Nat) (s0 : ByteArray) (b1 : Bool) (r2 : Rows) (b3 : Bool) : strings_Builder_WriteString_nilp_v n s0 b1 r2 b3 =
  obind (strings_Builder_copyCheck_nilp_v n b1 r2 b3) fun y4 =>
  if (List.length y4.snd.fst.snd.fst.snd + ByteArray.size s0) * 1 ≤ 140737488355328 then
    some (((↑(ByteArray.size s0) : Int), ((), ())), (((), ((y4.snd.fst.snd.fst.fst && ByteArray.size s0 == 0, appX y4.snd.fst.snd.fst.snd (byteRows s0)), (y4.snd.fst.snd.snd.fst, ()))), ()))
  else none := by kernel_rfl
theorem strings_Builder_WriteString_nilp_c (n : Nat) (s0 : ByteArray) (b1 : Bool) (r2 : Rows) (b3 : Bool) (y : (Int × Unit × Unit) × (Unit × (Bool × Rows) × Bool × Unit) × Unit) (h : strings_Builder_WriteString_nilp_v n s0 b1 r2 b3 = some y) : Contract Tryd.prog 43 [AV.pl 1000 0, AV.dv (DV.val (Value.string s0))] [[AV.dv (DV.val (Value.pointer none)), AV.sl b1 [Kd.i IntKind.u8] r2 (Right.tok 500003), AV.dv (DV.val (Value.bool b3))]] (OSh.enc (OSh.plain (.tup [.i IntKind.i64, .nili]) [[.pl 1000 0, .slt [Kd.i IntKind.u8] 1, .b]]) y) :=
  ac (OSh.plain (.tup [.i IntKind.i64, .nili]) [[.pl 1000 0, .slt [Kd.i IntKind.u8] 1, .b]]) (strings_Builder_WriteString_nilp_σok n) Tryd.func43 (by decide) h
def show_printer_term_nilp_lv : Live := []
noncomputable def show_printer_term_nilp_σ (n : Nat) : Spec := (inst 13 [.agg [.s, .b, .i IntKind.i64, .s]] [] (OSh.plain (.tup [.s, .i IntKind.i64]) []) (fun x e => show_Term_v n x.1.1 x.1.2.1 x.1.2.2.1 x.1.2.2.2.1) (inst 43 [.pl 1000 0, .s] [[.nilp, .slt [Kd.i IntKind.u8] 500003, .b]] (OSh.plain (.tup [.i IntKind.i64, .nili]) [[.pl 1000 0, .slt [Kd.i IntKind.u8] 1, .b]]) (fun x e => strings_Builder_WriteString_nilp_v n x.2.1 e.1.2.1.1 e.1.2.1.2 e.1.2.2.1) Spec.none))
theorem show_printer_term_nilp_σok (n : Nat) : SpecOk Tryd.prog (show_printer_term_nilp_σ n) := (inst_ok (fun x e y h => show_Term_c n x.1.1 x.1.2.1 x.1.2.2.1 x.1.2.2.2.1 y h) (inst_ok (fun x e y h => strings_Builder_WriteString_nilp_c n x.2.1 e.1.2.1.1 e.1.2.1.2 e.1.2.2.1 y h) (SpecOk.none _)))
noncomputable def show_printer_term_nilp_Φ (n : Nat) : Orc := with_ Tryd.prog (show_printer_term_nilp_σ n) [] n 0 hsL
noncomputable def show_printer_term_nilp_v (n : Nat) (s0 : ByteArray) (s1 : ByteArray) (b2 : Bool) (j3 : Int) (s4 : ByteArray) (b5 : Bool) (r6 : Rows) (b7 : Bool) : Option (Unit × (Unit × (Bool × Rows) × Bool × Unit) × Unit) :=
  DM.denFn tm (show_printer_term_nilp_Φ n) show_printer_term_nilp_lv n Tryd.f42 false [AV.pl 1000 0, AV.dv (DV.val (Value.string s0)), AV.agg [AV.dv (DV.val (Value.string s1)), AV.dv (DV.val (Value.bool b2)), AV.dv (DV.val (Value.int IntKind.i64 j3)), AV.dv (DV.val (Value.string s4))]] [[AV.dv (DV.val (Value.pointer none)), AV.sl b5 [Kd.i IntKind.u8] r6 (Right.tok 500004), AV.dv (DV.val (Value.bool b7))]] (OSh.chk (OSh.plain (.tup []) [[.pl 1000 0, .slt [Kd.i IntKind.u8] 1, .b]]))
theorem show_printer_term_nilp_e (n : Nat) (s0 : ByteArray) (s1 : ByteArray) (b2 : Bool) (j3 : Int) (s4 : ByteArray) (b5 : Bool) (r6 : Rows) (b7 : Bool) : show_printer_term_nilp_v n s0 s1 b2 j3 s4 b5 r6 b7 =
  obind (show_Term_v n s1 b2 j3 s4) fun y8 =>
  bif b7 then
    if (Nat.beq 1 1 && Nat.ble 3 (List.length [AV.dv (DV.val (Value.pointer none)), AV.sl b5 [Kd.i IntKind.u8] r6 (Right.tok 500004), AV.dv (DV.val (Value.bool b7))]) && AV.areCells [AV.dv (DV.val (Value.bool true))] && virLe [AV.dv (DV.val (Value.pointer none)), AV.sl b5 [Kd.i IntKind.u8] r6 (Right.tok 500004), AV.dv (DV.val (Value.bool true))] [AV.dv (DV.val (Value.pointer none)), AV.sl b5 [Kd.i IntKind.u8] r6 (Right.tok 500004), AV.dv (DV.val (Value.bool b7))] && !Nat.beq 2 1000000000) = true then
      if ByteArray.size s0 + ByteArray.size y8.fst.fst < 4611686018427387904 then
        obind (strings_Builder_WriteString_nilp_v n (s0 ++ y8.fst.fst) b5 r6 true) fun y9 =>
        some ((), (((), ((y9.snd.fst.snd.fst.fst, y9.snd.fst.snd.fst.snd), (y9.snd.fst.snd.snd.fst, ()))), ()))
      else none
    else none
  else if (Nat.beq (List.length [AV.dv (DV.val (Value.bool (y8.fst.snd.fst != 0)))]) 1 && Nat.ble 3 (List.length [AV.dv (DV.val (Value.pointer none)), AV.sl b5 [Kd.i IntKind.u8] r6 (Right.tok 500004), AV.dv (DV.val (Value.bool b7))]) && AV.areCells [AV.dv (DV.val (Value.bool (y8.fst.snd.fst != 0)))] && virLe [AV.dv (DV.val (Value.pointer none)), AV.sl b5 [Kd.i IntKind.u8] r6 (Right.tok 500004), AV.dv (DV.val (Value.bool (y8.fst.snd.fst != 0)))] [AV.dv (DV.val (Value.pointer none)), AV.sl b5 [Kd.i IntKind.u8] r6 (Right.tok 500004), AV.dv (DV.val (Value.bool b7))] && !Nat.beq 2 1000000000) = true then
    if ByteArray.size s0 + ByteArray.size y8.fst.fst < 4611686018427387904 then
      obind (strings_Builder_WriteString_nilp_v n (s0 ++ y8.fst.fst) b5 r6 (y8.fst.snd.fst != 0)) fun y10 =>
      some ((), (((), ((y10.snd.fst.snd.fst.fst, y10.snd.fst.snd.fst.snd), (y10.snd.fst.snd.snd.fst, ()))), ()))
    else none
  else none := by kernel_rfl
theorem show_printer_term_nilp_c (n : Nat) (s0 : ByteArray) (s1 : ByteArray) (b2 : Bool) (j3 : Int) (s4 : ByteArray) (b5 : Bool) (r6 : Rows) (b7 : Bool) (y : Unit × (Unit × (Bool × Rows) × Bool × Unit) × Unit) (h : show_printer_term_nilp_v n s0 s1 b2 j3 s4 b5 r6 b7 = some y) : Contract Tryd.prog 42 [AV.pl 1000 0, AV.dv (DV.val (Value.string s0)), AV.agg [AV.dv (DV.val (Value.string s1)), AV.dv (DV.val (Value.bool b2)), AV.dv (DV.val (Value.int IntKind.i64 j3)), AV.dv (DV.val (Value.string s4))]] [[AV.dv (DV.val (Value.pointer none)), AV.sl b5 [Kd.i IntKind.u8] r6 (Right.tok 500004), AV.dv (DV.val (Value.bool b7))]] (OSh.enc (OSh.plain (.tup []) [[.pl 1000 0, .slt [Kd.i IntKind.u8] 1, .b]]) y) :=
  ac (OSh.plain (.tup []) [[.pl 1000 0, .slt [Kd.i IntKind.u8] 1, .b]]) (show_printer_term_nilp_σok n) Tryd.func42 (by decide) h
def strings_Builder_WriteString_lv : Live := []
noncomputable def strings_Builder_WriteString_σ (n : Nat) : Spec := (inst 67 [.pl 1000 0] [[.pl 1000 0, .slt [Kd.i IntKind.u8] 500002, .b]] (OSh.plain (.tup []) [[.pl 1000 0, .slt [Kd.i IntKind.u8] 1, .b]]) (fun x e => strings_Builder_copyCheck_v n e.1.2.1.1 e.1.2.1.2 e.1.2.2.1) Spec.none)
theorem strings_Builder_WriteString_σok (n : Nat) : SpecOk Tryd.prog (strings_Builder_WriteString_σ n) := (inst_ok (fun x e y h => strings_Builder_copyCheck_c n e.1.2.1.1 e.1.2.1.2 e.1.2.2.1 y h) (SpecOk.none _))
noncomputable def strings_Builder_WriteString_Φ (n : Nat) : Orc := with_ Tryd.prog (strings_Builder_WriteString_σ n) [] n 0 hsL
noncomputable def strings_Builder_WriteString_v (n : Nat) (s0 : ByteArray) (b1 : Bool) (r2 : Rows) (b3 : Bool) : Option ((Int × Unit × Unit) × (Unit × (Bool × Rows) × Bool × Unit) × Unit) :=
  DM.denFn tm (strings_Builder_WriteString_Φ n) strings_Builder_WriteString_lv n Tryd.f43 false [AV.pl 1000 0, AV.dv (DV.val (Value.string s0))] [[AV.pl 1000 0, AV.sl b1 [Kd.i IntKind.u8] r2 (Right.tok 500003), AV.dv (DV.val (Value.bool b3))]] (OSh.chk (OSh.plain (.tup [.i IntKind.i64, .nili]) [[.pl 1000 0, .slt [Kd.i IntKind.u8] 1, .b]]))
theorem strings_Builder_WriteString_e (n : Nat) (s0 : ByteArray) (b1 : Bool) (r2 : Rows) (b3 : Bool) : strings_Builder_WriteString_v n s0 b1 r2 b3 =
  obind (strings_Builder_copyCheck_v n b1 r2 b3) fun y4 =>
  if (List.length y4.snd.fst.snd.fst.snd + ByteArray.size s0) * 1 ≤ 140737488355328 then
    some (((↑(ByteArray.size s0) : Int), ((), ())), (((), ((y4.snd.fst.snd.fst.fst && ByteArray.size s0 == 0, appX y4.snd.fst.snd.fst.snd (byteRows s0)), (y4.snd.fst.snd.snd.fst, ()))), ()))
  else none := by kernel_rfl
theorem strings_Builder_WriteString_c (n : Nat) (s0 : ByteArray) (b1 : Bool) (r2 : Rows) (b3 : Bool) (y : (Int × Unit × Unit) × (Unit × (Bool × Rows) × Bool × Unit) × Unit) (h : strings_Builder_WriteString_v n s0 b1 r2 b3 = some y) : Contract Tryd.prog 43 [AV.pl 1000 0, AV.dv (DV.val (Value.string s0))] [[AV.pl 1000 0, AV.sl b1 [Kd.i IntKind.u8] r2 (Right.tok 500003), AV.dv (DV.val (Value.bool b3))]] (OSh.enc (OSh.plain (.tup [.i IntKind.i64, .nili]) [[.pl 1000 0, .slt [Kd.i IntKind.u8] 1, .b]]) y) :=
  ac (OSh.plain (.tup [.i IntKind.i64, .nili]) [[.pl 1000 0, .slt [Kd.i IntKind.u8] 1, .b]]) (strings_Builder_WriteString_σok n) Tryd.func43 (by decide) h
def show_printer_term_lv : Live := []
noncomputable def show_printer_term_σ (n : Nat) : Spec := (inst 13 [.agg [.s, .b, .i IntKind.i64, .s]] [] (OSh.plain (.tup [.s, .i IntKind.i64]) []) (fun x e => show_Term_v n x.1.1 x.1.2.1 x.1.2.2.1 x.1.2.2.2.1) (inst 43 [.pl 1000 0, .s] [[.pl 1000 0, .slt [Kd.i IntKind.u8] 500003, .b]] (OSh.plain (.tup [.i IntKind.i64, .nili]) [[.pl 1000 0, .slt [Kd.i IntKind.u8] 1, .b]]) (fun x e => strings_Builder_WriteString_v n x.2.1 e.1.2.1.1 e.1.2.1.2 e.1.2.2.1) Spec.none))
theorem show_printer_term_σok (n : Nat) : SpecOk Tryd.prog (show_printer_term_σ n) := (inst_ok (fun x e y h => show_Term_c n x.1.1 x.1.2.1 x.1.2.2.1 x.1.2.2.2.1 y h) (inst_ok (fun x e y h => strings_Builder_WriteString_c n x.2.1 e.1.2.1.1 e.1.2.1.2 e.1.2.2.1 y h) (SpecOk.none _)))
noncomputable def show_printer_term_Φ (n : Nat) : Orc := with_ Tryd.prog (show_printer_term_σ n) [] n 0 hsL
noncomputable def show_printer_term_v (n : Nat) (s0 : ByteArray) (s1 : ByteArray) (b2 : Bool) (j3 : Int) (s4 : ByteArray) (b5 : Bool) (r6 : Rows) (b7 : Bool) : Option (Unit × (Unit × (Bool × Rows) × Bool × Unit) × Unit) :=
  DM.denFn tm (show_printer_term_Φ n) show_printer_term_lv n Tryd.f42 false [AV.pl 1000 0, AV.dv (DV.val (Value.string s0)), AV.agg [AV.dv (DV.val (Value.string s1)), AV.dv (DV.val (Value.bool b2)), AV.dv (DV.val (Value.int IntKind.i64 j3)), AV.dv (DV.val (Value.string s4))]] [[AV.pl 1000 0, AV.sl b5 [Kd.i IntKind.u8] r6 (Right.tok 500004), AV.dv (DV.val (Value.bool b7))]] (OSh.chk (OSh.plain (.tup []) [[.pl 1000 0, .slt [Kd.i IntKind.u8] 1, .b]]))
theorem show_printer_term_e (n : Nat) (s0 : ByteArray) (s1 : ByteArray) (b2 : Bool) (j3 : Int) (s4 : ByteArray) (b5 : Bool) (r6 : Rows) (b7 : Bool) : show_printer_term_v n s0 s1 b2 j3 s4 b5 r6 b7 =
  obind (show_Term_v n s1 b2 j3 s4) fun y8 =>
  bif b7 then
    if ByteArray.size s0 + ByteArray.size y8.fst.fst < 4611686018427387904 then
      obind (strings_Builder_WriteString_v n (s0 ++ y8.fst.fst) b5 r6 true) fun y9 =>
      some ((), (((), ((y9.snd.fst.snd.fst.fst, y9.snd.fst.snd.fst.snd), (y9.snd.fst.snd.snd.fst, ()))), ()))
    else none
  else if ByteArray.size s0 + ByteArray.size y8.fst.fst < 4611686018427387904 then
    obind (strings_Builder_WriteString_v n (s0 ++ y8.fst.fst) b5 r6 (y8.fst.snd.fst != 0)) fun y10 =>
    some ((), (((), ((y10.snd.fst.snd.fst.fst, y10.snd.fst.snd.fst.snd), (y10.snd.fst.snd.snd.fst, ()))), ()))
  else none := by kernel_rfl
theorem show_printer_term_c (n : Nat) (s0 : ByteArray) (s1 : ByteArray) (b2 : Bool) (j3 : Int) (s4 : ByteArray) (b5 : Bool) (r6 : Rows) (b7 : Bool) (y : Unit × (Unit × (Bool × Rows) × Bool × Unit) × Unit) (h : show_printer_term_v n s0 s1 b2 j3 s4 b5 r6 b7 = some y) : Contract Tryd.prog 42 [AV.pl 1000 0, AV.dv (DV.val (Value.string s0)), AV.agg [AV.dv (DV.val (Value.string s1)), AV.dv (DV.val (Value.bool b2)), AV.dv (DV.val (Value.int IntKind.i64 j3)), AV.dv (DV.val (Value.string s4))]] [[AV.pl 1000 0, AV.sl b5 [Kd.i IntKind.u8] r6 (Right.tok 500004), AV.dv (DV.val (Value.bool b7))]] (OSh.enc (OSh.plain (.tup []) [[.pl 1000 0, .slt [Kd.i IntKind.u8] 1, .b]]) y) :=
  ac (OSh.plain (.tup []) [[.pl 1000 0, .slt [Kd.i IntKind.u8] 1, .b]]) (show_printer_term_σok n) Tryd.func42 (by decide) h
def show_printer_atom_lv : Live := [(3, [0, 31, 32, 33], [1000, 1001, 1002, 1003])]
noncomputable def show_printer_atom_σ (n : Nat) : Spec := (inst 43 [.pl 1000 0, .s] [[.pl 1000 0, .slt [Kd.i IntKind.u8] 500003, .b]] (OSh.plain (.tup [.i IntKind.i64, .nili]) [[.pl 1000 0, .slt [Kd.i IntKind.u8] 1, .b]]) (fun x e => strings_Builder_WriteString_v n x.2.1 e.1.2.1.1 e.1.2.1.2 e.1.2.2.1) (inst 37 [.s] [] (OSh.plain (.b) []) (fun x e => show_word_v n x.1) (inst 42 [.pl 1000 0, .s, .agg [.s, .b, .i IntKind.i64, .s]] [[.pl 1000 0, .slt [Kd.i IntKind.u8] 500004, .b]] (OSh.plain (.tup []) [[.pl 1000 0, .slt [Kd.i IntKind.u8] 1, .b]]) (fun x e => show_printer_term_v n x.2.1 x.2.2.1.1 x.2.2.1.2.1 x.2.2.1.2.2.1 x.2.2.1.2.2.2.1 e.1.2.1.1 e.1.2.1.2 e.1.2.2.1) Spec.none)))
theorem show_printer_atom_σok (n : Nat) : SpecOk Tryd.prog (show_printer_atom_σ n) := (inst_ok (fun x e y h => strings_Builder_WriteString_c n x.2.1 e.1.2.1.1 e.1.2.1.2 e.1.2.2.1 y h) (inst_ok (fun x e y h => show_word_c n x.1 y h) (inst_ok (fun x e y h => show_printer_term_c n x.2.1 x.2.2.1.1 x.2.2.1.2.1 x.2.2.1.2.2.1 x.2.2.1.2.2.2.1 e.1.2.1.1 e.1.2.1.2 e.1.2.2.1 y h) (SpecOk.none _))))
noncomputable def show_printer_atom_Φ (n : Nat) : Orc := with_ Tryd.prog (show_printer_atom_σ n) [] n 0 hsL
noncomputable def show_printer_atom_v (n : Nat) (s0 : ByteArray) (b1 : Bool) (r2 : Rows) (b3 : Bool) (r4 : Rows) (b5 : Bool) : Option (Unit × (Unit × (Bool × Rows) × Bool × Unit) × Unit) :=
  DM.denFn tm (show_printer_atom_Φ n) show_printer_atom_lv n Tryd.f44 false [AV.pl 1000 0, AV.dv (DV.val (Value.string s0)), AV.sl b1 kdT r2 Right.no] [[AV.pl 1000 0, AV.sl b3 [Kd.i IntKind.u8] r4 (Right.tok 500004), AV.dv (DV.val (Value.bool b5))]] (OSh.chk (OSh.plain (.tup []) [[.pl 1000 0, .slt [Kd.i IntKind.u8] 1, .b]]))
noncomputable def show_printer_atom_l3 (n : Nat) (s0 : ByteArray) (b1 : Bool) (r2 : Rows) (b3 : Bool) (r4 : Rows) (b5 : Bool) (i0 : Nat) (b10 : Bool) (r11 : List (List DV)) (b12 : Bool) (j15 : Int) : Option (Unit × (Unit × (Bool × Rows) × Bool × Unit) × Unit) :=
  DM.loopFn tm (show_printer_atom_Φ n) show_printer_atom_lv n Tryd.f44 false [[AV.pl 1000 0, AV.sl b3 [Kd.i IntKind.u8] r4 (Right.tok 500004), AV.dv (DV.val (Value.bool b5))]] (OSh.chk (OSh.plain (.tup []) [[.pl 1000 0, .slt [Kd.i IntKind.u8] 1, .b]])) 3 [] i0 (St.mk [AV.pl 1000 0, Jk, Jk, Jk, Jk, Jk, Jk, Jk, Jk, Jk, Jk, Jk, Jk, Jk, Jk, Jk, Jk, Jk, Jk, Jk, Jk, Jk, Jk, Jk, Jk, Jk, Jk, Jk, Jk, Jk, Jk, AV.sl b1 kdT r2 Right.no, AV.dv (DV.val (Value.int IntKind.i64 (↑(List.length r2) : Int))), AV.dv (DV.val (Value.int IntKind.i64 j15)), Jk, Jk, Jk, Jk, Jk, Jk, Jk, Jk, Jk, Jk, Jk, Jk, Jk, Jk, Jk, Jk, Jk, Jk, Jk, Jk, Jk, Jk, Jk] [(1000, [AV.pl 1000 0, AV.sl b10 [Kd.i IntKind.u8] r11 (Right.tok 84001), AV.dv (DV.val (Value.bool b12))])])
theorem show_printer_atom_s3 (n : Nat) (s0 : ByteArray) (b1 : Bool) (r2 : Rows) (b3 : Bool) (r4 : Rows) (b5 : Bool) (i0 : Nat) (b10 : Bool) (r11 : List (List DV)) (b12 : Bool) (j15 : Int) : show_printer_atom_l3 n s0 b1 r2 b3 r4 b5 (i0 + 1) b10 r11 b12 j15 =
  bif decide (j15 < (↑(List.length r2) : Int)) then
    if 0 ≤ j15 then
      if j15 < (↑(List.length r2) : Int) then
        bif decide (j15 > 0) then
          obind (strings_Builder_WriteString_v n (ByteArray.mk #[44, 32]) b10 r11 b12) fun y16 =>
          bif !y16.snd.fst.snd.snd.fst then
            obind (show_printer_term_v n (ByteArray.mk #[]) (Row.S (List.getD r2 (Int.toNat j15) []) 0) (Row.B (List.getD r2 (Int.toNat j15) []) 1) (Row.I (List.getD r2 (Int.toNat j15) []) 2) (Row.S (List.getD r2 (Int.toNat j15) []) 3) y16.snd.fst.snd.fst.fst y16.snd.fst.snd.fst.snd y16.snd.fst.snd.snd.fst) fun y17 =>
            show_printer_atom_l3 n s0 b1 r2 b3 r4 b5 i0 y17.snd.fst.snd.fst.fst y17.snd.fst.snd.fst.snd y17.snd.fst.snd.snd.fst (IntKind.wrap IntKind.i64 (j15 + 1))
          else show_printer_atom_l3 n s0 b1 r2 b3 r4 b5 i0 y16.snd.fst.snd.fst.fst y16.snd.fst.snd.fst.snd y16.snd.fst.snd.snd.fst (IntKind.wrap IntKind.i64 (j15 + 1))
        else bif !b12 then
          obind (show_printer_term_v n (ByteArray.mk #[]) (Row.S (List.getD r2 (Int.toNat j15) []) 0) (Row.B (List.getD r2 (Int.toNat j15) []) 1) (Row.I (List.getD r2 (Int.toNat j15) []) 2) (Row.S (List.getD r2 (Int.toNat j15) []) 3) b10 r11 b12) fun y18 =>
          show_printer_atom_l3 n s0 b1 r2 b3 r4 b5 i0 y18.snd.fst.snd.fst.fst y18.snd.fst.snd.fst.snd y18.snd.fst.snd.snd.fst (IntKind.wrap IntKind.i64 (j15 + 1))
        else show_printer_atom_l3 n s0 b1 r2 b3 r4 b5 i0 b10 r11 b12 (IntKind.wrap IntKind.i64 (j15 + 1))
      else none
    else none
  else obind (strings_Builder_WriteString_v n (ByteArray.mk #[41]) b10 r11 b12) fun y19 =>
  some ((), (((), ((y19.snd.fst.snd.fst.fst, y19.snd.fst.snd.fst.snd), (y19.snd.fst.snd.snd.fst, ()))), ())) := by kernel_rfl
theorem show_printer_atom_e (n : Nat) (s0 : ByteArray) (b1 : Bool) (r2 : Rows) (b3 : Bool) (r4 : Rows) (b5 : Bool) : show_printer_atom_v n s0 b1 r2 b3 r4 b5 =
  bif b5 then
    if ByteArray.size s0 + 1 < 4611686018427387904 then
      obind (strings_Builder_WriteString_v n (s0 ++ ByteArray.mk #[40]) b3 r4 true) fun y6 =>
      show_printer_atom_l3 n s0 b1 r2 b3 r4 b5 n y6.snd.fst.snd.fst.fst y6.snd.fst.snd.fst.snd y6.snd.fst.snd.snd.fst 0
    else none
  else obind (show_word_v n s0) fun y7 =>
  bif !y7.fst then
    if ByteArray.size s0 + 1 < 4611686018427387904 then
      obind (strings_Builder_WriteString_v n (s0 ++ ByteArray.mk #[40]) b3 r4 true) fun y8 =>
      show_printer_atom_l3 n s0 b1 r2 b3 r4 b5 n y8.snd.fst.snd.fst.fst y8.snd.fst.snd.fst.snd y8.snd.fst.snd.snd.fst 0
    else none
  else if ByteArray.size s0 + 1 < 4611686018427387904 then
    obind (strings_Builder_WriteString_v n (s0 ++ ByteArray.mk #[40]) b3 r4 (decide ((↑(List.length r2) : Int) > 4))) fun y9 =>
    show_printer_atom_l3 n s0 b1 r2 b3 r4 b5 n y9.snd.fst.snd.fst.fst y9.snd.fst.snd.fst.snd y9.snd.fst.snd.snd.fst 0
  else none := by kernel_rfl
theorem show_printer_atom_c (n : Nat) (s0 : ByteArray) (b1 : Bool) (r2 : Rows) (b3 : Bool) (r4 : Rows) (b5 : Bool) (y : Unit × (Unit × (Bool × Rows) × Bool × Unit) × Unit) (h : show_printer_atom_v n s0 b1 r2 b3 r4 b5 = some y) : Contract Tryd.prog 44 [AV.pl 1000 0, AV.dv (DV.val (Value.string s0)), AV.sl b1 kdT r2 Right.no] [[AV.pl 1000 0, AV.sl b3 [Kd.i IntKind.u8] r4 (Right.tok 500004), AV.dv (DV.val (Value.bool b5))]] (OSh.enc (OSh.plain (.tup []) [[.pl 1000 0, .slt [Kd.i IntKind.u8] 1, .b]]) y) :=
  ac (OSh.plain (.tup []) [[.pl 1000 0, .slt [Kd.i IntKind.u8] 1, .b]]) (show_printer_atom_σok n) Tryd.func44 (by decide) h
def show_printer_maybe_lv : Live := []
noncomputable def show_printer_maybe_σ (n : Nat) : Spec := (inst 42 [.pl 1000 0, .s, .agg [.s, .b, .i IntKind.i64, .s]] [[.pl 1000 0, .slt [Kd.i IntKind.u8] 500004, .b]] (OSh.plain (.tup []) [[.pl 1000 0, .slt [Kd.i IntKind.u8] 1, .b]]) (fun x e => show_printer_term_v n x.2.1 x.2.2.1.1 x.2.2.1.2.1 x.2.2.1.2.2.1 x.2.2.1.2.2.2.1 e.1.2.1.1 e.1.2.1.2 e.1.2.2.1) (inst 43 [.pl 1000 0, .s] [[.pl 1000 0, .slt [Kd.i IntKind.u8] 500003, .b]] (OSh.plain (.tup [.i IntKind.i64, .nili]) [[.pl 1000 0, .slt [Kd.i IntKind.u8] 1, .b]]) (fun x e => strings_Builder_WriteString_v n x.2.1 e.1.2.1.1 e.1.2.1.2 e.1.2.2.1) Spec.none))
theorem show_printer_maybe_σok (n : Nat) : SpecOk Tryd.prog (show_printer_maybe_σ n) := (inst_ok (fun x e y h => show_printer_term_c n x.2.1 x.2.2.1.1 x.2.2.1.2.1 x.2.2.1.2.2.1 x.2.2.1.2.2.2.1 e.1.2.1.1 e.1.2.1.2 e.1.2.2.1 y h) (inst_ok (fun x e y h => strings_Builder_WriteString_c n x.2.1 e.1.2.1.1 e.1.2.1.2 e.1.2.2.1 y h) (SpecOk.none _)))
noncomputable def show_printer_maybe_Φ (n : Nat) : Orc := with_ Tryd.prog (show_printer_maybe_σ n) [] n 0 hsL
noncomputable def show_printer_maybe_v (n : Nat) (s0 : ByteArray) (s1 : ByteArray) (b2 : Bool) (j3 : Int) (s4 : ByteArray) (s5 : ByteArray) (b6 : Bool) (r7 : Rows) (b8 : Bool) : Option (Unit × (Unit × (Bool × Rows) × Bool × Unit) × Unit) :=
  DM.denFn tm (show_printer_maybe_Φ n) show_printer_maybe_lv n Tryd.f45 false [AV.pl 1000 0, AV.dv (DV.val (Value.string s0)), AV.agg [AV.dv (DV.val (Value.string s1)), AV.dv (DV.val (Value.bool b2)), AV.dv (DV.val (Value.int IntKind.i64 j3)), AV.dv (DV.val (Value.string s4))], AV.dv (DV.val (Value.string s5))] [[AV.pl 1000 0, AV.sl b6 [Kd.i IntKind.u8] r7 (Right.tok 500005), AV.dv (DV.val (Value.bool b8))]] (OSh.chk (OSh.plain (.tup []) [[.pl 1000 0, .slt [Kd.i IntKind.u8] 1, .b]]))
theorem show_printer_maybe_e (n : Nat) (s0 : ByteArray) (s1 : ByteArray) (b2 : Bool) (j3 : Int) (s4 : ByteArray) (s5 : ByteArray) (b6 : Bool) (r7 : Rows) (b8 : Bool) : show_printer_maybe_v n s0 s1 b2 j3 s4 s5 b6 r7 b8 =
  bif !(s1 == ByteArray.mk #[] && (b2 == false && (j3 == 0 && (s4 == ByteArray.mk #[] && true)))) then
    obind (show_printer_term_v n s0 s1 b2 j3 s4 b6 r7 b8) fun y9 =>
    obind (strings_Builder_WriteString_v n s5 y9.snd.fst.snd.fst.fst y9.snd.fst.snd.fst.snd y9.snd.fst.snd.snd.fst) fun y10 =>
    some ((), (((), ((y10.snd.fst.snd.fst.fst, y10.snd.fst.snd.fst.snd), (y10.snd.fst.snd.snd.fst, ()))), ()))
  else some ((), (((), ((b6, r7), (b8, ()))), ())) := by kernel_rfl
theorem show_printer_maybe_c (n : Nat) (s0 : ByteArray) (s1 : ByteArray) (b2 : Bool) (j3 : Int) (s4 : ByteArray) (s5 : ByteArray) (b6 : Bool) (r7 : Rows) (b8 : Bool) (y : Unit × (Unit × (Bool × Rows) × Bool × Unit) × Unit) (h : show_printer_maybe_v n s0 s1 b2 j3 s4 s5 b6 r7 b8 = some y) : Contract Tryd.prog 45 [AV.pl 1000 0, AV.dv (DV.val (Value.string s0)), AV.agg [AV.dv (DV.val (Value.string s1)), AV.dv (DV.val (Value.bool b2)), AV.dv (DV.val (Value.int IntKind.i64 j3)), AV.dv (DV.val (Value.string s4))], AV.dv (DV.val (Value.string s5))] [[AV.pl 1000 0, AV.sl b6 [Kd.i IntKind.u8] r7 (Right.tok 500005), AV.dv (DV.val (Value.bool b8))]] (OSh.enc (OSh.plain (.tup []) [[.pl 1000 0, .slt [Kd.i IntKind.u8] 1, .b]]) y) :=
  ac (OSh.plain (.tup []) [[.pl 1000 0, .slt [Kd.i IntKind.u8] 1, .b]]) (show_printer_maybe_σok n) Tryd.func45 (by decide) h
def show_Rule_lv : Live := [(10, [4, 48, 49, 50], [24, 1000, 1001, 1002, 1003])]
noncomputable def show_Rule_σ (n : Nat) : Spec := (inst 42 [.pl 1000 0, .s, .agg [.s, .b, .i IntKind.i64, .s]] [[.nilp, .slt [Kd.i IntKind.u8] 500004, .b]] (OSh.plain (.tup []) [[.pl 1000 0, .slt [Kd.i IntKind.u8] 1, .b]]) (fun x e => show_printer_term_nilp_v n x.2.1 x.2.2.1.1 x.2.2.1.2.1 x.2.2.1.2.2.1 x.2.2.1.2.2.2.1 e.1.2.1.1 e.1.2.1.2 e.1.2.2.1) (inst 43 [.pl 1000 0, .s] [[.pl 1000 0, .slt [Kd.i IntKind.u8] 500003, .b]] (OSh.plain (.tup [.i IntKind.i64, .nili]) [[.pl 1000 0, .slt [Kd.i IntKind.u8] 1, .b]]) (fun x e => strings_Builder_WriteString_v n x.2.1 e.1.2.1.1 e.1.2.1.2 e.1.2.2.1) (inst 44 [.pl 1000 0, .s, .sl kdT] [[.pl 1000 0, .slt [Kd.i IntKind.u8] 500004, .b]] (OSh.plain (.tup []) [[.pl 1000 0, .slt [Kd.i IntKind.u8] 1, .b]]) (fun x e => show_printer_atom_v n x.2.1 x.2.2.1.1 x.2.2.1.2 e.1.2.1.1 e.1.2.1.2 e.1.2.2.1) (inst 45 [.pl 1000 0, .s, .agg [.s, .b, .i IntKind.i64, .s], .s] [[.pl 1000 0, .slt [Kd.i IntKind.u8] 500005, .b]] (OSh.plain (.tup []) [[.pl 1000 0, .slt [Kd.i IntKind.u8] 1, .b]]) (fun x e => show_printer_maybe_v n x.2.1 x.2.2.1.1 x.2.2.1.2.1 x.2.2.1.2.2.1 x.2.2.1.2.2.2.1 x.2.2.2.1 e.1.2.1.1 e.1.2.1.2 e.1.2.2.1) (inst 46 [.pl 1000 0] [[.pl 1000 0, .slt [Kd.i IntKind.u8] 500002, .b]] (OSh.plain (.s) [[.pl 1000 0, .sl [Kd.i IntKind.u8], .b]]) (fun x e => strings_Builder_String_v n e.1.2.1.1 e.1.2.1.2 e.1.2.2.1) Spec.none)))))
theorem show_Rule_σok (n : Nat) : SpecOk Tryd.prog (show_Rule_σ n) := (inst_ok (fun x e y h => show_printer_term_nilp_c n x.2.1 x.2.2.1.1 x.2.2.1.2.1 x.2.2.1.2.2.1 x.2.2.1.2.2.2.1 e.1.2.1.1 e.1.2.1.2 e.1.2.2.1 y h) (inst_ok (fun x e y h => strings_Builder_WriteString_c n x.2.1 e.1.2.1.1 e.1.2.1.2 e.1.2.2.1 y h) (inst_ok (fun x e y h => show_printer_atom_c n x.2.1 x.2.2.1.1 x.2.2.1.2 e.1.2.1.1 e.1.2.1.2 e.1.2.2.1 y h) (inst_ok (fun x e y h => show_printer_maybe_c n x.2.1 x.2.2.1.1 x.2.2.1.2.1 x.2.2.1.2.2.1 x.2.2.1.2.2.2.1 x.2.2.2.1 e.1.2.1.1 e.1.2.1.2 e.1.2.2.1 y h) (inst_ok (fun x e y h => strings_Builder_String_c n e.1.2.1.1 e.1.2.1.2 e.1.2.2.1 y h) (SpecOk.none _))))))
noncomputable def show_Rule_Φ (n : Nat) : Orc := with_ Tryd.prog (show_Rule_σ n) [] n 0 hsL
noncomputable def show_Rule_v (n : Nat) (s0 : ByteArray) (b1 : Bool) (j2 : Int) (s3 : ByteArray) (s4 : ByteArray) (b5 : Bool) (r6 : Rows) (s7 : ByteArray) (b8 : Bool) (j9 : Int) (s10 : ByteArray) (b11 : Bool) (r12 : Rows) : Option ((ByteArray × Int × Unit) × Unit) :=
  DM.denFn tm (show_Rule_Φ n) show_Rule_lv n Tryd.f16 false [AV.agg [AV.dv (DV.val (Value.string s0)), AV.dv (DV.val (Value.bool b1)), AV.dv (DV.val (Value.int IntKind.i64 j2)), AV.dv (DV.val (Value.string s3)), AV.dv (DV.val (Value.string s4)), AV.sl b5 kdT r6 Right.no, AV.dv (DV.val (Value.string s7)), AV.dv (DV.val (Value.bool b8)), AV.dv (DV.val (Value.int IntKind.i64 j9)), AV.dv (DV.val (Value.string s10)), AV.sl b11 kdL r12 Right.no]] [] (OSh.chk (OSh.plain (.tup [.s, .i IntKind.i64]) []))
noncomputable def show_Rule_l10 (n : Nat) (s0 : ByteArray) (b1 : Bool) (j2 : Int) (s3 : ByteArray) (s4 : ByteArray) (b5 : Bool) (r6 : Rows) (s7 : ByteArray) (b8 : Bool) (j9 : Int) (s10 : ByteArray) (b11 : Bool) (r12 : Rows) (i0 : Nat) (b18 : Bool) (r19 : List (List DV)) (b20 : Bool) (j25 : Int) : Option ((ByteArray × Int × Unit) × Unit) :=
  DM.loopFn tm (show_Rule_Φ n) show_Rule_lv n Tryd.f16 false [] (OSh.chk (OSh.plain (.tup [.s, .i IntKind.i64]) [])) 10 [] i0 (St.mk [Jk, Jk, Jk, Jk, AV.pl 24 0, Jk, Jk, Jk, Jk, Jk, Jk, Jk, Jk, Jk, Jk, Jk, Jk, Jk, Jk, Jk, Jk, Jk, Jk, Jk, Jk, Jk, Jk, Jk, Jk, Jk, Jk, Jk, Jk, Jk, Jk, Jk, Jk, Jk, Jk, Jk, Jk, Jk, Jk, Jk, Jk, Jk, Jk, Jk, AV.sl b11 kdL r12 Right.no, AV.dv (DV.val (Value.int IntKind.i64 (↑(List.length r12) : Int))), AV.dv (DV.val (Value.int IntKind.i64 j25)), Jk, Jk, Jk, Jk, Jk, Jk, Jk, Jk, Jk, Jk, Jk, Jk, Jk, Jk, Jk, Jk, Jk, Jk, Jk, Jk, Jk, Jk, Jk, Jk, Jk, Jk, Jk, Jk, Jk, Jk, Jk, Jk, Jk, Jk, Jk, Jk, Jk, Jk, Jk, Jk, Jk, Jk, Jk, Jk] [(24, [AV.pl 24 0, AV.sl b18 [Kd.i IntKind.u8] r19 (Right.tok 21537), AV.dv (DV.val (Value.bool b20))])])
theorem show_Rule_s10 (n : Nat) (s0 : ByteArray) (b1 : Bool) (j2 : Int) (s3 : ByteArray) (s4 : ByteArray) (b5 : Bool) (r6 : Rows) (s7 : ByteArray) (b8 : Bool) (j9 : Int) (s10 : ByteArray) (b11 : Bool) (r12 : Rows) (i0 : Nat) (b18 : Bool) (r19 : List (List DV)) (b20 : Bool) (j25 : Int) : show_Rule_l10 n s0 b1 j2 s3 s4 b5 r6 s7 b8 j9 s10 b11 r12 (i0 + 1) b18 r19 b20 j25 =
  bif decide (j25 < (↑(List.length r12) : Int)) then
    if 0 ≤ j25 then
      if j25 < (↑(List.length r12) : Int) then
        bif decide (j25 > 0) then
          obind (strings_Builder_WriteString_v n (ByteArray.mk #[44, 32]) b18 r19 b20) fun y26 =>
          bif y26.snd.fst.snd.snd.fst then
            some ((ByteArray.mk #[], (100, ())), ())
          else bif decide ((↑(List.length (Row.R (List.getD r12 (Int.toNat j25) []) 5)) : Int) > 4) then
            some ((ByteArray.mk #[], (100, ())), ())
          else obind (show_printer_maybe_v n (ByteArray.mk #[]) (Row.S (List.getD r12 (Int.toNat j25) []) 0) (Row.B (List.getD r12 (Int.toNat j25) []) 1) (Row.I (List.getD r12 (Int.toNat j25) []) 2) (Row.S (List.getD r12 (Int.toNat j25) []) 3) (ByteArray.mk #[32, 115, 97, 121, 115, 32]) y26.snd.fst.snd.fst.fst y26.snd.fst.snd.fst.snd y26.snd.fst.snd.snd.fst) fun y27 =>
          obind (show_printer_atom_v n (Row.S (List.getD r12 (Int.toNat j25) []) 4) (Row.N (List.getD r12 (Int.toNat j25) []) 5) (Row.R (List.getD r12 (Int.toNat j25) []) 5) y27.snd.fst.snd.fst.fst y27.snd.fst.snd.fst.snd y27.snd.fst.snd.snd.fst) fun y28 =>
          obind (show_printer_maybe_v n (ByteArray.mk #[32, 97, 116, 32]) (Row.S (List.getD r12 (Int.toNat j25) []) 6) (Row.B (List.getD r12 (Int.toNat j25) []) 7) (Row.I (List.getD r12 (Int.toNat j25) []) 8) (Row.S (List.getD r12 (Int.toNat j25) []) 9) (ByteArray.mk #[]) y28.snd.fst.snd.fst.fst y28.snd.fst.snd.fst.snd y28.snd.fst.snd.snd.fst) fun y29 =>
          show_Rule_l10 n s0 b1 j2 s3 s4 b5 r6 s7 b8 j9 s10 b11 r12 i0 y29.snd.fst.snd.fst.fst y29.snd.fst.snd.fst.snd y29.snd.fst.snd.snd.fst (IntKind.wrap IntKind.i64 (j25 + 1))
        else bif b20 then
          some ((ByteArray.mk #[], (100, ())), ())
        else bif decide ((↑(List.length (Row.R (List.getD r12 (Int.toNat j25) []) 5)) : Int) > 4) then
          some ((ByteArray.mk #[], (100, ())), ())
        else obind (show_printer_maybe_v n (ByteArray.mk #[]) (Row.S (List.getD r12 (Int.toNat j25) []) 0) (Row.B (List.getD r12 (Int.toNat j25) []) 1) (Row.I (List.getD r12 (Int.toNat j25) []) 2) (Row.S (List.getD r12 (Int.toNat j25) []) 3) (ByteArray.mk #[32, 115, 97, 121, 115, 32]) b18 r19 b20) fun y30 =>
        obind (show_printer_atom_v n (Row.S (List.getD r12 (Int.toNat j25) []) 4) (Row.N (List.getD r12 (Int.toNat j25) []) 5) (Row.R (List.getD r12 (Int.toNat j25) []) 5) y30.snd.fst.snd.fst.fst y30.snd.fst.snd.fst.snd y30.snd.fst.snd.snd.fst) fun y31 =>
        obind (show_printer_maybe_v n (ByteArray.mk #[32, 97, 116, 32]) (Row.S (List.getD r12 (Int.toNat j25) []) 6) (Row.B (List.getD r12 (Int.toNat j25) []) 7) (Row.I (List.getD r12 (Int.toNat j25) []) 8) (Row.S (List.getD r12 (Int.toNat j25) []) 9) (ByteArray.mk #[]) y31.snd.fst.snd.fst.fst y31.snd.fst.snd.fst.snd y31.snd.fst.snd.snd.fst) fun y32 =>
        show_Rule_l10 n s0 b1 j2 s3 s4 b5 r6 s7 b8 j9 s10 b11 r12 i0 y32.snd.fst.snd.fst.fst y32.snd.fst.snd.fst.snd y32.snd.fst.snd.snd.fst (IntKind.wrap IntKind.i64 (j25 + 1))
      else none
    else none
  else bif b20 then
    some ((ByteArray.mk #[], (100, ())), ())
  else obind (strings_Builder_String_v n b18 r19 b20) fun y33 =>
  if ByteArray.size y33.fst + 1 < 4611686018427387904 then
    some ((y33.fst ++ ByteArray.mk #[46], (0, ())), ())
  else none := by kernel_rfl
theorem show_Rule_e (n : Nat) (s0 : ByteArray) (b1 : Bool) (j2 : Int) (s3 : ByteArray) (s4 : ByteArray) (b5 : Bool) (r6 : Rows) (s7 : ByteArray) (b8 : Bool) (j9 : Int) (s10 : ByteArray) (b11 : Bool) (r12 : Rows) : show_Rule_v n s0 b1 j2 s3 s4 b5 r6 s7 b8 j9 s10 b11 r12 =
  bif decide ((↑(List.length r12) : Int) < 1) then
    some ((ByteArray.mk #[], (100, ())), ())
  else bif decide ((↑(List.length r12) : Int) > 4) then
    some ((ByteArray.mk #[], (100, ())), ())
  else bif decide ((↑(List.length r6) : Int) > 4) then
    some ((ByteArray.mk #[], (100, ())), ())
  else obind (show_printer_term_nilp_v n (ByteArray.mk #[]) s0 b1 j2 s3 true [] false) fun y13 =>
  obind (strings_Builder_WriteString_v n (ByteArray.mk #[58, 32]) y13.snd.fst.snd.fst.fst y13.snd.fst.snd.fst.snd y13.snd.fst.snd.snd.fst) fun y14 =>
  obind (show_printer_atom_v n s4 b5 r6 y14.snd.fst.snd.fst.fst y14.snd.fst.snd.fst.snd y14.snd.fst.snd.snd.fst) fun y15 =>
  obind (show_printer_maybe_v n (ByteArray.mk #[32, 116, 111, 32]) s7 b8 j9 s10 (ByteArray.mk #[]) y15.snd.fst.snd.fst.fst y15.snd.fst.snd.fst.snd y15.snd.fst.snd.snd.fst) fun y16 =>
  obind (strings_Builder_WriteString_v n (ByteArray.mk #[32, 58, 45, 32]) y16.snd.fst.snd.fst.fst y16.snd.fst.snd.fst.snd y16.snd.fst.snd.snd.fst) fun y17 =>
  show_Rule_l10 n s0 b1 j2 s3 s4 b5 r6 s7 b8 j9 s10 b11 r12 n y17.snd.fst.snd.fst.fst y17.snd.fst.snd.fst.snd y17.snd.fst.snd.snd.fst 0 := by kernel_rfl
theorem show_Rule_c (n : Nat) (s0 : ByteArray) (b1 : Bool) (j2 : Int) (s3 : ByteArray) (s4 : ByteArray) (b5 : Bool) (r6 : Rows) (s7 : ByteArray) (b8 : Bool) (j9 : Int) (s10 : ByteArray) (b11 : Bool) (r12 : Rows) (y : (ByteArray × Int × Unit) × Unit) (h : show_Rule_v n s0 b1 j2 s3 s4 b5 r6 s7 b8 j9 s10 b11 r12 = some y) : Contract Tryd.prog 16 [AV.agg [AV.dv (DV.val (Value.string s0)), AV.dv (DV.val (Value.bool b1)), AV.dv (DV.val (Value.int IntKind.i64 j2)), AV.dv (DV.val (Value.string s3)), AV.dv (DV.val (Value.string s4)), AV.sl b5 kdT r6 Right.no, AV.dv (DV.val (Value.string s7)), AV.dv (DV.val (Value.bool b8)), AV.dv (DV.val (Value.int IntKind.i64 j9)), AV.dv (DV.val (Value.string s10)), AV.sl b11 kdL r12 Right.no]] [] (OSh.enc (OSh.plain (.tup [.s, .i IntKind.i64]) []) y) :=
  ac (OSh.plain (.tup [.s, .i IntKind.i64]) []) (show_Rule_σok n) Tryd.func16 (by decide) h
def check_number_lv : Live := []
noncomputable def check_number_σ (n : Nat) : Spec := Spec.none
theorem check_number_σok (n : Nat) : SpecOk Tryd.prog (check_number_σ n) := (SpecOk.none _)
noncomputable def check_number_Φ (n : Nat) : Orc := with_ Tryd.prog (check_number_σ n) [] n 0 hsL
noncomputable def check_number_v (n : Nat) (s0 : ByteArray) (b1 : Bool) (j2 : Int) (s3 : ByteArray) : Option (Bool × Unit) :=
  DM.denFn tm (check_number_Φ n) check_number_lv n Tryd.f80 false [AV.agg [AV.dv (DV.val (Value.string s0)), AV.dv (DV.val (Value.bool b1)), AV.dv (DV.val (Value.int IntKind.i64 j2)), AV.dv (DV.val (Value.string s3))]] [] (OSh.chk (OSh.plain (.b) []))
theorem check_number_e (n : Nat) (s0 : ByteArray) (b1 : Bool) (j2 : Int) (s3 : ByteArray) : check_number_v n s0 b1 j2 s3 =
  bif s0 == ByteArray.mk #[] then
    some (b1, ())
  else some (false, ()) := by kernel_rfl
theorem check_number_c (n : Nat) (s0 : ByteArray) (b1 : Bool) (j2 : Int) (s3 : ByteArray) (y : Bool × Unit) (h : check_number_v n s0 b1 j2 s3 = some y) : Contract Tryd.prog 80 [AV.agg [AV.dv (DV.val (Value.string s0)), AV.dv (DV.val (Value.bool b1)), AV.dv (DV.val (Value.int IntKind.i64 j2)), AV.dv (DV.val (Value.string s3))]] [] (OSh.enc (OSh.plain (.b) []) y) :=
  ac (OSh.plain (.b) []) (check_number_σok n) Tryd.func80 (by decide) h
def check_place_1_lv : Live := []
noncomputable def check_place_1_σ (n : Nat) : Spec := (inst 80 [.agg [.s, .b, .i IntKind.i64, .s]] [] (OSh.plain (.b) []) (fun x e => check_number_v n x.1.1 x.1.2.1 x.1.2.2.1 x.1.2.2.2.1) Spec.none)
theorem check_place_1_σok (n : Nat) : SpecOk Tryd.prog (check_place_1_σ n) := (inst_ok (fun x e y h => check_number_c n x.1.1 x.1.2.1 x.1.2.2.1 x.1.2.2.2.1 y h) (SpecOk.none _))
noncomputable def check_place_1_Φ (n : Nat) : Orc := with_ Tryd.prog (check_place_1_σ n) [] n 0 hsL
noncomputable def check_place_1_v (n : Nat) (s0 : ByteArray) (b1 : Bool) (j2 : Int) (s3 : ByteArray) (s4 : ByteArray) (b5 : Bool) (r6 : Rows) (s7 : ByteArray) (b8 : Bool) (j9 : Int) (s10 : ByteArray) : Option (Bool × Unit) :=
  DM.denFn tm (check_place_1_Φ n) check_place_1_lv n Tryd.f82 false [AV.agg [AV.dv (DV.val (Value.string s0)), AV.dv (DV.val (Value.bool b1)), AV.dv (DV.val (Value.int IntKind.i64 j2)), AV.dv (DV.val (Value.string s3)), AV.dv (DV.val (Value.string s4)), AV.sl b5 kdT r6 Right.no, AV.dv (DV.val (Value.string s7)), AV.dv (DV.val (Value.bool b8)), AV.dv (DV.val (Value.int IntKind.i64 j9)), AV.dv (DV.val (Value.string s10))]] [] (OSh.chk (OSh.plain (.b) []))
theorem check_place_1_e (n : Nat) (s0 : ByteArray) (b1 : Bool) (j2 : Int) (s3 : ByteArray) (s4 : ByteArray) (b5 : Bool) (r6 : Rows) (s7 : ByteArray) (b8 : Bool) (j9 : Int) (s10 : ByteArray) : check_place_1_v n s0 b1 j2 s3 s4 b5 r6 s7 b8 j9 s10 =
  obind (check_number_v n s0 b1 j2 s3) fun y11 =>
  bif y11.fst then
    some (true, ())
  else obind (check_number_v n s7 b8 j9 s10) fun y12 =>
  some (y12.fst, ()) := by kernel_rfl
theorem check_place_1_c (n : Nat) (s0 : ByteArray) (b1 : Bool) (j2 : Int) (s3 : ByteArray) (s4 : ByteArray) (b5 : Bool) (r6 : Rows) (s7 : ByteArray) (b8 : Bool) (j9 : Int) (s10 : ByteArray) (y : Bool × Unit) (h : check_place_1_v n s0 b1 j2 s3 s4 b5 r6 s7 b8 j9 s10 = some y) : Contract Tryd.prog 82 [AV.agg [AV.dv (DV.val (Value.string s0)), AV.dv (DV.val (Value.bool b1)), AV.dv (DV.val (Value.int IntKind.i64 j2)), AV.dv (DV.val (Value.string s3)), AV.dv (DV.val (Value.string s4)), AV.sl b5 kdT r6 Right.no, AV.dv (DV.val (Value.string s7)), AV.dv (DV.val (Value.bool b8)), AV.dv (DV.val (Value.int IntKind.i64 j9)), AV.dv (DV.val (Value.string s10))]] [] (OSh.enc (OSh.plain (.b) []) y) :=
  ac (OSh.plain (.b) []) (check_place_1_σok n) Tryd.func82 (by decide) h
def slices_IndexFunc_check_place_1_lv : Live := [(2, [0, 1, 7, 8], [1000, 1001, 1002, 1003])]
noncomputable def slices_IndexFunc_check_place_1_σ (n : Nat) : Spec := (inst 82 [.agg [.s, .b, .i IntKind.i64, .s, .s, .sl kdT, .s, .b, .i IntKind.i64, .s]] [] (OSh.plain (.b) []) (fun x e => check_place_1_v n x.1.1 x.1.2.1 x.1.2.2.1 x.1.2.2.2.1 x.1.2.2.2.2.1 x.1.2.2.2.2.2.1.1 x.1.2.2.2.2.2.1.2 x.1.2.2.2.2.2.2.1 x.1.2.2.2.2.2.2.2.1 x.1.2.2.2.2.2.2.2.2.1 x.1.2.2.2.2.2.2.2.2.2.1) Spec.none)
theorem slices_IndexFunc_check_place_1_σok (n : Nat) : SpecOk Tryd.prog (slices_IndexFunc_check_place_1_σ n) := (inst_ok (fun x e y h => check_place_1_c n x.1.1 x.1.2.1 x.1.2.2.1 x.1.2.2.2.1 x.1.2.2.2.2.1 x.1.2.2.2.2.2.1.1 x.1.2.2.2.2.2.1.2 x.1.2.2.2.2.2.2.1 x.1.2.2.2.2.2.2.2.1 x.1.2.2.2.2.2.2.2.2.1 x.1.2.2.2.2.2.2.2.2.2.1 y h) (SpecOk.none _))
noncomputable def slices_IndexFunc_check_place_1_Φ (n : Nat) : Orc := with_ Tryd.prog (slices_IndexFunc_check_place_1_σ n) [] n 0 hsL
noncomputable def slices_IndexFunc_check_place_1_v (n : Nat) (b0 : Bool) (r1 : Rows) : Option (Int × Unit) :=
  DM.denFn tm (slices_IndexFunc_check_place_1_Φ n) slices_IndexFunc_check_place_1_lv n Tryd.f81 false [AV.sl b0 kdL r1 Right.no, AV.fn 82 []] [] (OSh.chk (OSh.plain (.i IntKind.i64) []))
noncomputable def slices_IndexFunc_check_place_1_l2 (n : Nat) (b0 : Bool) (r1 : Rows) (i0 : Nat) (j3 : Int) : Option (Int × Unit) :=
  DM.loopFn tm (slices_IndexFunc_check_place_1_Φ n) slices_IndexFunc_check_place_1_lv n Tryd.f81 false [] (OSh.chk (OSh.plain (.i IntKind.i64) [])) 2 [] i0 (St.mk [AV.sl b0 kdL r1 Right.no, AV.fn 82 [], Jk, Jk, Jk, Jk, Jk, AV.dv (DV.val (Value.int IntKind.i64 (↑(List.length r1) : Int))), AV.dv (DV.val (Value.int IntKind.i64 j3)), Jk, Jk, Jk, Jk, Jk, Jk, Jk, Jk, Jk, Jk] [])
theorem slices_IndexFunc_check_place_1_s2 (n : Nat) (b0 : Bool) (r1 : Rows) (i0 : Nat) (j3 : Int) : slices_IndexFunc_check_place_1_l2 n b0 r1 (i0 + 1) j3 =
  bif decide (j3 < (↑(List.length r1) : Int)) then
    if 0 ≤ j3 then
      if j3 < (↑(List.length r1) : Int) then
        obind (check_place_1_v n (Row.S (List.getD r1 (Int.toNat j3) []) 0) (Row.B (List.getD r1 (Int.toNat j3) []) 1) (Row.I (List.getD r1 (Int.toNat j3) []) 2) (Row.S (List.getD r1 (Int.toNat j3) []) 3) (Row.S (List.getD r1 (Int.toNat j3) []) 4) (Row.N (List.getD r1 (Int.toNat j3) []) 5) (Row.R (List.getD r1 (Int.toNat j3) []) 5) (Row.S (List.getD r1 (Int.toNat j3) []) 6) (Row.B (List.getD r1 (Int.toNat j3) []) 7) (Row.I (List.getD r1 (Int.toNat j3) []) 8) (Row.S (List.getD r1 (Int.toNat j3) []) 9)) fun y4 =>
        bif y4.fst then
          some (j3, ())
        else slices_IndexFunc_check_place_1_l2 n b0 r1 i0 (IntKind.wrap IntKind.i64 (j3 + 1))
      else none
    else none
  else some (-1, ()) := by kernel_rfl
theorem slices_IndexFunc_check_place_1_e (n : Nat) (b0 : Bool) (r1 : Rows) : slices_IndexFunc_check_place_1_v n b0 r1 =
  slices_IndexFunc_check_place_1_l2 n b0 r1 n 0 := by kernel_rfl
theorem slices_IndexFunc_check_place_1_c (n : Nat) (b0 : Bool) (r1 : Rows) (y : Int × Unit) (h : slices_IndexFunc_check_place_1_v n b0 r1 = some y) : Contract Tryd.prog 81 [AV.sl b0 kdL r1 Right.no, AV.fn 82 []] [] (OSh.enc (OSh.plain (.i IntKind.i64) []) y) :=
  ac (OSh.plain (.i IntKind.i64) []) (slices_IndexFunc_check_place_1_σok n) Tryd.func81 (by decide) h
def check_place_lv : Live := []
noncomputable def check_place_σ (n : Nat) : Spec := (inst 80 [.agg [.s, .b, .i IntKind.i64, .s]] [] (OSh.plain (.b) []) (fun x e => check_number_v n x.1.1 x.1.2.1 x.1.2.2.1 x.1.2.2.2.1) (inst 81 [.sl kdL, .fn 82 []] [] (OSh.plain (.i IntKind.i64) []) (fun x e => slices_IndexFunc_check_place_1_v n x.1.1 x.1.2) Spec.none))
theorem check_place_σok (n : Nat) : SpecOk Tryd.prog (check_place_σ n) := (inst_ok (fun x e y h => check_number_c n x.1.1 x.1.2.1 x.1.2.2.1 x.1.2.2.2.1 y h) (inst_ok (fun x e y h => slices_IndexFunc_check_place_1_c n x.1.1 x.1.2 y h) (SpecOk.none _)))
noncomputable def check_place_Φ (n : Nat) : Orc := with_ Tryd.prog (check_place_σ n) [] n 0 hsL
noncomputable def check_place_v (n : Nat) (s0 : ByteArray) (b1 : Bool) (j2 : Int) (s3 : ByteArray) (s4 : ByteArray) (b5 : Bool) (r6 : Rows) (s7 : ByteArray) (b8 : Bool) (j9 : Int) (s10 : ByteArray) (b11 : Bool) (r12 : Rows) : Option (Int × Unit) :=
  DM.denFn tm (check_place_Φ n) check_place_lv n Tryd.f60 false [AV.agg [AV.dv (DV.val (Value.string s0)), AV.dv (DV.val (Value.bool b1)), AV.dv (DV.val (Value.int IntKind.i64 j2)), AV.dv (DV.val (Value.string s3)), AV.dv (DV.val (Value.string s4)), AV.sl b5 kdT r6 Right.no, AV.dv (DV.val (Value.string s7)), AV.dv (DV.val (Value.bool b8)), AV.dv (DV.val (Value.int IntKind.i64 j9)), AV.dv (DV.val (Value.string s10)), AV.sl b11 kdL r12 Right.no]] [] (OSh.chk (OSh.plain (.i IntKind.i64) []))
theorem check_place_e (n : Nat) (s0 : ByteArray) (b1 : Bool) (j2 : Int) (s3 : ByteArray) (s4 : ByteArray) (b5 : Bool) (r6 : Rows) (s7 : ByteArray) (b8 : Bool) (j9 : Int) (s10 : ByteArray) (b11 : Bool) (r12 : Rows) : check_place_v n s0 b1 j2 s3 s4 b5 r6 s7 b8 j9 s10 b11 r12 =
  obind (check_number_v n s0 b1 j2 s3) fun y13 =>
  bif y13.fst then
    some (-1, ())
  else obind (check_number_v n s7 b8 j9 s10) fun y14 =>
  bif y14.fst then
    some (-1, ())
  else if (1 + List.length r12) * 136 ≤ 140737488355328 then
    bif List.isEmpty [[DV.val (Value.string (ByteArray.mk #[])), DV.val (Value.bool false), DV.val (Value.int IntKind.i64 0), DV.val (Value.string (ByteArray.mk #[])), DV.val (Value.string (ByteArray.mk #[])), DV.sl true kdT [], DV.val (Value.string (ByteArray.mk #[])), DV.val (Value.bool false), DV.val (Value.int IntKind.i64 0), DV.val (Value.string (ByteArray.mk #[]))]] || !List.isEmpty r12 then
      obind (slices_IndexFunc_check_place_1_v n (false && List.isEmpty r12) (appX [[DV.val (Value.string (ByteArray.mk #[])), DV.val (Value.bool false), DV.val (Value.int IntKind.i64 0), DV.val (Value.string (ByteArray.mk #[])), DV.val (Value.string (ByteArray.mk #[])), DV.sl true kdT [], DV.val (Value.string (ByteArray.mk #[])), DV.val (Value.bool false), DV.val (Value.int IntKind.i64 0), DV.val (Value.string (ByteArray.mk #[]))]] r12)) fun y15 =>
      some (IntKind.wrap IntKind.i64 (y15.fst - 1), ())
    else obind (slices_IndexFunc_check_place_1_v n (false && List.isEmpty r12) (appX [[DV.val (Value.string (ByteArray.mk #[])), DV.val (Value.bool false), DV.val (Value.int IntKind.i64 0), DV.val (Value.string (ByteArray.mk #[])), DV.val (Value.string (ByteArray.mk #[])), DV.sl true kdT [], DV.val (Value.string (ByteArray.mk #[])), DV.val (Value.bool false), DV.val (Value.int IntKind.i64 0), DV.val (Value.string (ByteArray.mk #[]))]] r12)) fun y16 =>
    some (IntKind.wrap IntKind.i64 (y16.fst - 1), ())
  else none := by kernel_rfl
theorem check_place_c (n : Nat) (s0 : ByteArray) (b1 : Bool) (j2 : Int) (s3 : ByteArray) (s4 : ByteArray) (b5 : Bool) (r6 : Rows) (s7 : ByteArray) (b8 : Bool) (j9 : Int) (s10 : ByteArray) (b11 : Bool) (r12 : Rows) (y : Int × Unit) (h : check_place_v n s0 b1 j2 s3 s4 b5 r6 s7 b8 j9 s10 b11 r12 = some y) : Contract Tryd.prog 60 [AV.agg [AV.dv (DV.val (Value.string s0)), AV.dv (DV.val (Value.bool b1)), AV.dv (DV.val (Value.int IntKind.i64 j2)), AV.dv (DV.val (Value.string s3)), AV.dv (DV.val (Value.string s4)), AV.sl b5 kdT r6 Right.no, AV.dv (DV.val (Value.string s7)), AV.dv (DV.val (Value.bool b8)), AV.dv (DV.val (Value.int IntKind.i64 j9)), AV.dv (DV.val (Value.string s10)), AV.sl b11 kdL r12 Right.no]] [] (OSh.enc (OSh.plain (.i IntKind.i64) []) y) :=
  ac (OSh.plain (.i IntKind.i64) []) (check_place_σok n) Tryd.func60 (by decide) h
def check_arity_1_nilf_lv : Live := []
noncomputable def check_arity_1_nilf_σ (n : Nat) : Spec := Spec.none
theorem check_arity_1_nilf_σok (n : Nat) : SpecOk Tryd.prog (check_arity_1_nilf_σ n) := (SpecOk.none _)
noncomputable def check_arity_1_nilf_Φ (n : Nat) : Orc := with_ Tryd.prog (check_arity_1_nilf_σ n) [] n 0 hsL
noncomputable def check_arity_1_nilf_v (n : Nat) (s0 : ByteArray) (j1 : Int) (r2 : Rows) : Option (Bool × (Unit × Unit) × (Unit × Rows × Unit) × Unit) :=
  DM.denFn tm (check_arity_1_nilf_Φ n) check_arity_1_nilf_lv n Tryd.f83 false [AV.dv (DV.val (Value.string s0)), AV.dv (DV.val (Value.int IntKind.i64 j1)), AV.pl 1000 0] [[AV.pl 1001 1000000000], [AV.dv (DV.val Value.nilFunc), AV.arr [Kd.s, Kd.i IntKind.i64] r2]] (OSh.chk (OSh.plain (.b) [[.pl 1001 1000000000], [.nilf, .arr [Kd.s, Kd.i IntKind.i64]]]))
theorem check_arity_1_nilf_e (n : Nat) (s0 : ByteArray) (j1 : Int) (r2 : Rows) : check_arity_1_nilf_v n s0 j1 r2 =
  bif !mhas r2 (DV.val (Value.string s0)) then
    bif mhas r2 (DV.val (Value.string s0)) then
      some (Row.I (mget r2 (DV.val (Value.string s0)) [DV.val (Value.string s0), DV.val (Value.int IntKind.i64 0)]) 1 != j1, (((), ()), (((), (mput r2 (DV.val (Value.string s0)) [DV.val (Value.string s0), DV.val (Value.int IntKind.i64 j1)], ())), ())))
    else some (false, (((), ()), (((), (mput r2 (DV.val (Value.string s0)) [DV.val (Value.string s0), DV.val (Value.int IntKind.i64 j1)], ())), ())))
  else bif mhas r2 (DV.val (Value.string s0)) then
    some (Row.I (mget r2 (DV.val (Value.string s0)) [DV.val (Value.string s0), DV.val (Value.int IntKind.i64 0)]) 1 != j1, (((), ()), (((), (r2, ())), ())))
  else some (false, (((), ()), (((), (r2, ())), ()))) := by kernel_rfl
theorem check_arity_1_nilf_c (n : Nat) (s0 : ByteArray) (j1 : Int) (r2 : Rows) (y : Bool × (Unit × Unit) × (Unit × Rows × Unit) × Unit) (h : check_arity_1_nilf_v n s0 j1 r2 = some y) : Contract Tryd.prog 83 [AV.dv (DV.val (Value.string s0)), AV.dv (DV.val (Value.int IntKind.i64 j1)), AV.pl 1000 0] [[AV.pl 1001 1000000000], [AV.dv (DV.val Value.nilFunc), AV.arr [Kd.s, Kd.i IntKind.i64] r2]] (OSh.enc (OSh.plain (.b) [[.pl 1001 1000000000], [.nilf, .arr [Kd.s, Kd.i IntKind.i64]]]) y) :=
  ac (OSh.plain (.b) [[.pl 1001 1000000000], [.nilf, .arr [Kd.s, Kd.i IntKind.i64]]]) (check_arity_1_nilf_σok n) Tryd.func83 (by decide) h
def check_arity_nilf_lv : Live := [(5, [5, 17, 18, 19], [3, 1000, 1001, 1002, 1003])]
noncomputable def check_arity_nilf_σ (n : Nat) : Spec := (inst 83 [.s, .i IntKind.i64, .pl 1000 0] [[.pl 1001 1000000000], [.nilf, .arr [Kd.s, Kd.i IntKind.i64]]] (OSh.plain (.b) [[.pl 1001 1000000000], [.nilf, .arr [Kd.s, Kd.i IntKind.i64]]]) (fun x e => check_arity_1_nilf_v n x.1 x.2.1 e.2.1.2.1) Spec.none)
theorem check_arity_nilf_σok (n : Nat) : SpecOk Tryd.prog (check_arity_nilf_σ n) := (inst_ok (fun x e y h => check_arity_1_nilf_c n x.1 x.2.1 e.2.1.2.1 y h) (SpecOk.none _))
noncomputable def check_arity_nilf_Φ (n : Nat) : Orc := with_ Tryd.prog (check_arity_nilf_σ n) [] n 0 hsL
noncomputable def check_arity_nilf_v (n : Nat) (s0 : ByteArray) (b1 : Bool) (j2 : Int) (s3 : ByteArray) (s4 : ByteArray) (b5 : Bool) (r6 : Rows) (s7 : ByteArray) (b8 : Bool) (j9 : Int) (s10 : ByteArray) (b11 : Bool) (r12 : Rows) (r13 : Rows) : Option (Int × (Unit × Rows × Unit) × Unit) :=
  DM.denFn tm (check_arity_nilf_Φ n) check_arity_nilf_lv n Tryd.f61 false [AV.agg [AV.dv (DV.val (Value.string s0)), AV.dv (DV.val (Value.bool b1)), AV.dv (DV.val (Value.int IntKind.i64 j2)), AV.dv (DV.val (Value.string s3)), AV.dv (DV.val (Value.string s4)), AV.sl b5 kdT r6 Right.no, AV.dv (DV.val (Value.string s7)), AV.dv (DV.val (Value.bool b8)), AV.dv (DV.val (Value.int IntKind.i64 j9)), AV.dv (DV.val (Value.string s10)), AV.sl b11 kdL r12 Right.no], AV.pl 1000 1000000000] [[AV.dv (DV.val Value.nilFunc), AV.arr [Kd.s, Kd.i IntKind.i64] r13]] (OSh.chk (OSh.plain (.i IntKind.i64) [[.nilf, .arr [Kd.s, Kd.i IntKind.i64]]]))
noncomputable def check_arity_nilf_l5 (n : Nat) (s0 : ByteArray) (b1 : Bool) (j2 : Int) (s3 : ByteArray) (s4 : ByteArray) (b5 : Bool) (r6 : Rows) (s7 : ByteArray) (b8 : Bool) (j9 : Int) (s10 : ByteArray) (b11 : Bool) (r12 : Rows) (r13 : Rows) (i0 : Nat) (r15 : List (List DV)) (j17 : Int) : Option (Int × (Unit × Rows × Unit) × Unit) :=
  DM.loopFn tm (check_arity_nilf_Φ n) check_arity_nilf_lv n Tryd.f61 false [[AV.dv (DV.val Value.nilFunc), AV.arr [Kd.s, Kd.i IntKind.i64] r13]] (OSh.chk (OSh.plain (.i IntKind.i64) [[.nilf, .arr [Kd.s, Kd.i IntKind.i64]]])) 5 [] i0 (St.mk [Jk, Jk, Jk, Jk, Jk, AV.fn 83 [AV.pl 3 0], Jk, Jk, Jk, Jk, Jk, Jk, Jk, Jk, Jk, Jk, Jk, AV.sl b11 kdL r12 Right.no, AV.dv (DV.val (Value.int IntKind.i64 (↑(List.length r12) : Int))), AV.dv (DV.val (Value.int IntKind.i64 j17)), Jk, Jk, Jk, Jk, Jk, Jk, Jk, Jk, Jk, Jk, Jk, Jk, Jk] [(1000, [AV.dv (DV.val Value.nilFunc), AV.arr [Kd.s, Kd.i IntKind.i64] r15]), (3, [AV.pl 1000 1000000000])])
theorem check_arity_nilf_s5 (n : Nat) (s0 : ByteArray) (b1 : Bool) (j2 : Int) (s3 : ByteArray) (s4 : ByteArray) (b5 : Bool) (r6 : Rows) (s7 : ByteArray) (b8 : Bool) (j9 : Int) (s10 : ByteArray) (b11 : Bool) (r12 : Rows) (r13 : Rows) (i0 : Nat) (r15 : List (List DV)) (j17 : Int) : check_arity_nilf_l5 n s0 b1 j2 s3 s4 b5 r6 s7 b8 j9 s10 b11 r12 r13 (i0 + 1) r15 j17 =
  bif decide (j17 < (↑(List.length r12) : Int)) then
    if 0 ≤ j17 then
      if j17 < (↑(List.length r12) : Int) then
        obind (check_arity_1_nilf_v n (Row.S (List.getD r12 (Int.toNat j17) []) 4) ((↑(List.length (Row.R (List.getD r12 (Int.toNat j17) []) 5)) : Int)) r15) fun y18 =>
        bif y18.fst then
          some (j17, (((), (y18.snd.snd.fst.snd.fst, ())), ()))
        else check_arity_nilf_l5 n s0 b1 j2 s3 s4 b5 r6 s7 b8 j9 s10 b11 r12 r13 i0 y18.snd.snd.fst.snd.fst (IntKind.wrap IntKind.i64 (j17 + 1))
      else none
    else none
  else some (-2, (((), (r15, ())), ())) := by kernel_rfl
theorem check_arity_nilf_e (n : Nat) (s0 : ByteArray) (b1 : Bool) (j2 : Int) (s3 : ByteArray) (s4 : ByteArray) (b5 : Bool) (r6 : Rows) (s7 : ByteArray) (b8 : Bool) (j9 : Int) (s10 : ByteArray) (b11 : Bool) (r12 : Rows) (r13 : Rows) : check_arity_nilf_v n s0 b1 j2 s3 s4 b5 r6 s7 b8 j9 s10 b11 r12 r13 =
  obind (check_arity_1_nilf_v n s4 ((↑(List.length r6) : Int)) r13) fun y14 =>
  bif y14.fst then
    some (-1, (((), (y14.snd.snd.fst.snd.fst, ())), ()))
  else check_arity_nilf_l5 n s0 b1 j2 s3 s4 b5 r6 s7 b8 j9 s10 b11 r12 r13 n y14.snd.snd.fst.snd.fst 0 := by kernel_rfl
theorem check_arity_nilf_c (n : Nat) (s0 : ByteArray) (b1 : Bool) (j2 : Int) (s3 : ByteArray) (s4 : ByteArray) (b5 : Bool) (r6 : Rows) (s7 : ByteArray) (b8 : Bool) (j9 : Int) (s10 : ByteArray) (b11 : Bool) (r12 : Rows) (r13 : Rows) (y : Int × (Unit × Rows × Unit) × Unit) (h : check_arity_nilf_v n s0 b1 j2 s3 s4 b5 r6 s7 b8 j9 s10 b11 r12 r13 = some y) : Contract Tryd.prog 61 [AV.agg [AV.dv (DV.val (Value.string s0)), AV.dv (DV.val (Value.bool b1)), AV.dv (DV.val (Value.int IntKind.i64 j2)), AV.dv (DV.val (Value.string s3)), AV.dv (DV.val (Value.string s4)), AV.sl b5 kdT r6 Right.no, AV.dv (DV.val (Value.string s7)), AV.dv (DV.val (Value.bool b8)), AV.dv (DV.val (Value.int IntKind.i64 j9)), AV.dv (DV.val (Value.string s10)), AV.sl b11 kdL r12 Right.no], AV.pl 1000 1000000000] [[AV.dv (DV.val Value.nilFunc), AV.arr [Kd.s, Kd.i IntKind.i64] r13]] (OSh.enc (OSh.plain (.i IntKind.i64) [[.nilf, .arr [Kd.s, Kd.i IntKind.i64]]]) y) :=
  ac (OSh.plain (.i IntKind.i64) [[.nilf, .arr [Kd.s, Kd.i IntKind.i64]]]) (check_arity_nilf_σok n) Tryd.func61 (by decide) h
def slices_Index_lv : Live := [(2, [0, 1, 7, 8], [1000, 1001, 1002, 1003])]
noncomputable def slices_Index_σ (n : Nat) : Spec := Spec.none
theorem slices_Index_σok (n : Nat) : SpecOk Tryd.prog (slices_Index_σ n) := (SpecOk.none _)
noncomputable def slices_Index_Φ (n : Nat) : Orc := with_ Tryd.prog (slices_Index_σ n) [] n 0 hsL
noncomputable def slices_Index_v (n : Nat) (b0 : Bool) (r1 : Rows) (s2 : ByteArray) : Option (Int × Unit) :=
  DM.denFn tm (slices_Index_Φ n) slices_Index_lv n Tryd.f79 false [AV.sl b0 [Kd.s] r1 Right.no, AV.dv (DV.val (Value.string s2))] [] (OSh.chk (OSh.plain (.i IntKind.i64) []))
noncomputable def slices_Index_l2 (n : Nat) (b0 : Bool) (r1 : Rows) (s2 : ByteArray) (i0 : Nat) (j3 : Int) : Option (Int × Unit) :=
  DM.loopFn tm (slices_Index_Φ n) slices_Index_lv n Tryd.f79 false [] (OSh.chk (OSh.plain (.i IntKind.i64) [])) 2 [] i0 (St.mk [AV.sl b0 [Kd.s] r1 Right.no, AV.dv (DV.val (Value.string s2)), Jk, Jk, Jk, Jk, Jk, AV.dv (DV.val (Value.int IntKind.i64 (↑(List.length r1) : Int))), AV.dv (DV.val (Value.int IntKind.i64 j3)), Jk, Jk, Jk, Jk, Jk, Jk, Jk, Jk, Jk, Jk] [])
theorem slices_Index_s2 (n : Nat) (b0 : Bool) (r1 : Rows) (s2 : ByteArray) (i0 : Nat) (j3 : Int) : slices_Index_l2 n b0 r1 s2 (i0 + 1) j3 =
  bif decide (j3 < (↑(List.length r1) : Int)) then
    if 0 ≤ j3 then
      if j3 < (↑(List.length r1) : Int) then
        bif s2 == Row.S (List.getD r1 (Int.toNat j3) []) 0 then
          some (j3, ())
        else slices_Index_l2 n b0 r1 s2 i0 (IntKind.wrap IntKind.i64 (j3 + 1))
      else none
    else none
  else some (-1, ()) := by kernel_rfl
theorem slices_Index_e (n : Nat) (b0 : Bool) (r1 : Rows) (s2 : ByteArray) : slices_Index_v n b0 r1 s2 =
  slices_Index_l2 n b0 r1 s2 n 0 := by kernel_rfl
theorem slices_Index_c (n : Nat) (b0 : Bool) (r1 : Rows) (s2 : ByteArray) (y : Int × Unit) (h : slices_Index_v n b0 r1 s2 = some y) : Contract Tryd.prog 79 [AV.sl b0 [Kd.s] r1 Right.no, AV.dv (DV.val (Value.string s2))] [] (OSh.enc (OSh.plain (.i IntKind.i64) []) y) :=
  ac (OSh.plain (.i IntKind.i64) []) (slices_Index_σok n) Tryd.func79 (by decide) h
def slices_Contains_lv : Live := []
noncomputable def slices_Contains_σ (n : Nat) : Spec := (inst 79 [.sl [Kd.s], .s] [] (OSh.plain (.i IntKind.i64) []) (fun x e => slices_Index_v n x.1.1 x.1.2 x.2.1) Spec.none)
theorem slices_Contains_σok (n : Nat) : SpecOk Tryd.prog (slices_Contains_σ n) := (inst_ok (fun x e y h => slices_Index_c n x.1.1 x.1.2 x.2.1 y h) (SpecOk.none _))
noncomputable def slices_Contains_Φ (n : Nat) : Orc := with_ Tryd.prog (slices_Contains_σ n) [] n 0 hsL
noncomputable def slices_Contains_v (n : Nat) (b0 : Bool) (r1 : Rows) (s2 : ByteArray) : Option (Bool × Unit) :=
  DM.denFn tm (slices_Contains_Φ n) slices_Contains_lv n Tryd.f57 false [AV.sl b0 [Kd.s] r1 Right.no, AV.dv (DV.val (Value.string s2))] [] (OSh.chk (OSh.plain (.b) []))
theorem slices_Contains_e (n : Nat) (b0 : Bool) (r1 : Rows) (s2 : ByteArray) : slices_Contains_v n b0 r1 s2 =
  obind (slices_Index_v n b0 r1 s2) fun y3 =>
  some (decide (y3.fst ≥ 0), ()) := by kernel_rfl
theorem slices_Contains_c (n : Nat) (b0 : Bool) (r1 : Rows) (s2 : ByteArray) (y : Bool × Unit) (h : slices_Contains_v n b0 r1 s2 = some y) : Contract Tryd.prog 57 [AV.sl b0 [Kd.s] r1 Right.no, AV.dv (DV.val (Value.string s2))] [] (OSh.enc (OSh.plain (.b) []) y) :=
  ac (OSh.plain (.b) []) (slices_Contains_σok n) Tryd.func57 (by decide) h
def check_Bound_1_lv : Live := []
noncomputable def check_Bound_1_σ (n : Nat) : Spec := (inst 57 [.sl [Kd.s], .s] [] (OSh.plain (.b) []) (fun x e => slices_Contains_v n x.1.1 x.1.2 x.2.1) Spec.none)
theorem check_Bound_1_σok (n : Nat) : SpecOk Tryd.prog (check_Bound_1_σ n) := (inst_ok (fun x e y h => slices_Contains_c n x.1.1 x.1.2 x.2.1 y h) (SpecOk.none _))
noncomputable def check_Bound_1_Φ (n : Nat) : Orc := with_ Tryd.prog (check_Bound_1_σ n) [] n 0 hsL
noncomputable def check_Bound_1_v (n : Nat) (s0 : ByteArray) (b1 : Bool) (j2 : Int) (s3 : ByteArray) (b4 : Bool) (r5 : Rows) : Option (Unit × ((Bool × Rows) × Unit) × Unit) :=
  DM.denFn tm (check_Bound_1_Φ n) check_Bound_1_lv n Tryd.f56 false [AV.agg [AV.dv (DV.val (Value.string s0)), AV.dv (DV.val (Value.bool b1)), AV.dv (DV.val (Value.int IntKind.i64 j2)), AV.dv (DV.val (Value.string s3))], AV.pl 1000 0] [[AV.sl b4 [Kd.s] r5 (Right.tok 500002)]] (OSh.chk (OSh.plain (.tup []) [[.slt [Kd.s] 0]]))
theorem check_Bound_1_e (n : Nat) (s0 : ByteArray) (b1 : Bool) (j2 : Int) (s3 : ByteArray) (b4 : Bool) (r5 : Rows) : check_Bound_1_v n s0 b1 j2 s3 b4 r5 =
  bif !s0 == ByteArray.mk #[] then
    obind (slices_Contains_v n b4 r5 s0) fun y6 =>
    bif !y6.fst then
      if (List.length r5 + List.length [[DV.val (Value.string s0)]]) * 16 ≤ 140737488355328 then
        some ((), (((b4 && List.isEmpty [[DV.val (Value.string s0)]], appX r5 [[DV.val (Value.string s0)]]), ()), ()))
      else none
    else some ((), (((b4, r5), ()), ()))
  else some ((), (((b4, r5), ()), ())) := by kernel_rfl
theorem check_Bound_1_c (n : Nat) (s0 : ByteArray) (b1 : Bool) (j2 : Int) (s3 : ByteArray) (b4 : Bool) (r5 : Rows) (y : Unit × ((Bool × Rows) × Unit) × Unit) (h : check_Bound_1_v n s0 b1 j2 s3 b4 r5 = some y) : Contract Tryd.prog 56 [AV.agg [AV.dv (DV.val (Value.string s0)), AV.dv (DV.val (Value.bool b1)), AV.dv (DV.val (Value.int IntKind.i64 j2)), AV.dv (DV.val (Value.string s3))], AV.pl 1000 0] [[AV.sl b4 [Kd.s] r5 (Right.tok 500002)]] (OSh.enc (OSh.plain (.tup []) [[.slt [Kd.s] 0]]) y) :=
  ac (OSh.plain (.tup []) [[.slt [Kd.s] 0]]) (check_Bound_1_σok n) Tryd.func56 (by decide) h
def check_terms_lv : Live := []
noncomputable def check_terms_σ (n : Nat) : Spec := Spec.none
theorem check_terms_σok (n : Nat) : SpecOk Tryd.prog (check_terms_σ n) := (SpecOk.none _)
noncomputable def check_terms_Φ (n : Nat) : Orc := with_ Tryd.prog (check_terms_σ n) [] n 0 hsL
noncomputable def check_terms_v (n : Nat) (s0 : ByteArray) (b1 : Bool) (j2 : Int) (s3 : ByteArray) (s4 : ByteArray) (b5 : Bool) (r6 : Rows) (s7 : ByteArray) (b8 : Bool) (j9 : Int) (s10 : ByteArray) : Option ((Bool × Rows) × Unit) :=
  DM.denFn tm (check_terms_Φ n) check_terms_lv n Tryd.f58 false [AV.agg [AV.dv (DV.val (Value.string s0)), AV.dv (DV.val (Value.bool b1)), AV.dv (DV.val (Value.int IntKind.i64 j2)), AV.dv (DV.val (Value.string s3)), AV.dv (DV.val (Value.string s4)), AV.sl b5 kdT r6 Right.no, AV.dv (DV.val (Value.string s7)), AV.dv (DV.val (Value.bool b8)), AV.dv (DV.val (Value.int IntKind.i64 j9)), AV.dv (DV.val (Value.string s10))]] [] (OSh.chk (OSh.plain (.sl kdT) []))
theorem check_terms_e (n : Nat) (s0 : ByteArray) (b1 : Bool) (j2 : Int) (s3 : ByteArray) (s4 : ByteArray) (b5 : Bool) (r6 : Rows) (s7 : ByteArray) (b8 : Bool) (j9 : Int) (s10 : ByteArray) : check_terms_v n s0 b1 j2 s3 s4 b5 r6 s7 b8 j9 s10 =
  if (List.length [[DV.val (Value.string s0), DV.val (Value.bool b1), DV.val (Value.int IntKind.i64 j2), DV.val (Value.string s3)]] + List.length r6) * 48 ≤ 140737488355328 then
    bif List.isEmpty [[DV.val (Value.string s0), DV.val (Value.bool b1), DV.val (Value.int IntKind.i64 j2), DV.val (Value.string s3)]] || !List.isEmpty r6 then
      if (List.length (appX [[DV.val (Value.string s0), DV.val (Value.bool b1), DV.val (Value.int IntKind.i64 j2), DV.val (Value.string s3)]] r6) + List.length [[DV.val (Value.string s7), DV.val (Value.bool b8), DV.val (Value.int IntKind.i64 j9), DV.val (Value.string s10)]]) * 48 ≤ 140737488355328 then
        some ((false && List.isEmpty r6 && List.isEmpty [[DV.val (Value.string s7), DV.val (Value.bool b8), DV.val (Value.int IntKind.i64 j9), DV.val (Value.string s10)]], appX (appX [[DV.val (Value.string s0), DV.val (Value.bool b1), DV.val (Value.int IntKind.i64 j2), DV.val (Value.string s3)]] r6) [[DV.val (Value.string s7), DV.val (Value.bool b8), DV.val (Value.int IntKind.i64 j9), DV.val (Value.string s10)]]), ())
      else none
    else if (List.length (appX [[DV.val (Value.string s0), DV.val (Value.bool b1), DV.val (Value.int IntKind.i64 j2), DV.val (Value.string s3)]] r6) + List.length [[DV.val (Value.string s7), DV.val (Value.bool b8), DV.val (Value.int IntKind.i64 j9), DV.val (Value.string s10)]]) * 48 ≤ 140737488355328 then
      some ((false && List.isEmpty r6 && List.isEmpty [[DV.val (Value.string s7), DV.val (Value.bool b8), DV.val (Value.int IntKind.i64 j9), DV.val (Value.string s10)]], appX (appX [[DV.val (Value.string s0), DV.val (Value.bool b1), DV.val (Value.int IntKind.i64 j2), DV.val (Value.string s3)]] r6) [[DV.val (Value.string s7), DV.val (Value.bool b8), DV.val (Value.int IntKind.i64 j9), DV.val (Value.string s10)]]), ())
    else none
  else none := by kernel_rfl
theorem check_terms_c (n : Nat) (s0 : ByteArray) (b1 : Bool) (j2 : Int) (s3 : ByteArray) (s4 : ByteArray) (b5 : Bool) (r6 : Rows) (s7 : ByteArray) (b8 : Bool) (j9 : Int) (s10 : ByteArray) (y : (Bool × Rows) × Unit) (h : check_terms_v n s0 b1 j2 s3 s4 b5 r6 s7 b8 j9 s10 = some y) : Contract Tryd.prog 58 [AV.agg [AV.dv (DV.val (Value.string s0)), AV.dv (DV.val (Value.bool b1)), AV.dv (DV.val (Value.int IntKind.i64 j2)), AV.dv (DV.val (Value.string s3)), AV.dv (DV.val (Value.string s4)), AV.sl b5 kdT r6 Right.no, AV.dv (DV.val (Value.string s7)), AV.dv (DV.val (Value.bool b8)), AV.dv (DV.val (Value.int IntKind.i64 j9)), AV.dv (DV.val (Value.string s10))]] [] (OSh.enc (OSh.plain (.sl kdT) []) y) :=
  ac (OSh.plain (.sl kdT) []) (check_terms_σok n) Tryd.func58 (by decide) h
def check_Bound_lv : Live := [(5, [5, 6, 24, 25, 26], [5, 1000, 1001, 1002, 1003]), (8, [5, 6, 24, 25, 26, 31, 32, 33], [5, 1000, 1001, 1002, 1003])]
noncomputable def check_Bound_σ (n : Nat) : Spec := (inst 56 [.agg [.s, .b, .i IntKind.i64, .s], .pl 1000 0] [[.slt [Kd.s] 500002]] (OSh.plain (.tup []) [[.slt [Kd.s] 0]]) (fun x e => check_Bound_1_v n x.1.1 x.1.2.1 x.1.2.2.1 x.1.2.2.2.1 e.1.1.1 e.1.1.2) (inst 58 [.agg [.s, .b, .i IntKind.i64, .s, .s, .sl kdT, .s, .b, .i IntKind.i64, .s]] [] (OSh.plain (.sl kdT) []) (fun x e => check_terms_v n x.1.1 x.1.2.1 x.1.2.2.1 x.1.2.2.2.1 x.1.2.2.2.2.1 x.1.2.2.2.2.2.1.1 x.1.2.2.2.2.2.1.2 x.1.2.2.2.2.2.2.1 x.1.2.2.2.2.2.2.2.1 x.1.2.2.2.2.2.2.2.2.1 x.1.2.2.2.2.2.2.2.2.2.1) Spec.none))
theorem check_Bound_σok (n : Nat) : SpecOk Tryd.prog (check_Bound_σ n) := (inst_ok (fun x e y h => check_Bound_1_c n x.1.1 x.1.2.1 x.1.2.2.1 x.1.2.2.2.1 e.1.1.1 e.1.1.2 y h) (inst_ok (fun x e y h => check_terms_c n x.1.1 x.1.2.1 x.1.2.2.1 x.1.2.2.2.1 x.1.2.2.2.2.1 x.1.2.2.2.2.2.1.1 x.1.2.2.2.2.2.1.2 x.1.2.2.2.2.2.2.1 x.1.2.2.2.2.2.2.2.1 x.1.2.2.2.2.2.2.2.2.1 x.1.2.2.2.2.2.2.2.2.2.1 y h) (SpecOk.none _)))
noncomputable def check_Bound_Φ (n : Nat) : Orc := with_ Tryd.prog (check_Bound_σ n) [] n 0 hsL
noncomputable def check_Bound_v (n : Nat) (s0 : ByteArray) (b1 : Bool) (j2 : Int) (s3 : ByteArray) (s4 : ByteArray) (b5 : Bool) (r6 : Rows) (s7 : ByteArray) (b8 : Bool) (j9 : Int) (s10 : ByteArray) (b11 : Bool) (r12 : Rows) (j13 : Int) : Option ((Bool × Rows) × Unit) :=
  DM.denFn tm (check_Bound_Φ n) check_Bound_lv n Tryd.f29 true [AV.agg [AV.dv (DV.val (Value.string s0)), AV.dv (DV.val (Value.bool b1)), AV.dv (DV.val (Value.int IntKind.i64 j2)), AV.dv (DV.val (Value.string s3)), AV.dv (DV.val (Value.string s4)), AV.sl b5 kdT r6 Right.no, AV.dv (DV.val (Value.string s7)), AV.dv (DV.val (Value.bool b8)), AV.dv (DV.val (Value.int IntKind.i64 j9)), AV.dv (DV.val (Value.string s10)), AV.sl b11 kdL r12 Right.no], AV.dv (DV.val (Value.int IntKind.i64 j13))] [] (OSh.chk (OSh.plain (.slt [Kd.s] 0) []))
noncomputable def check_Bound_l5 (n : Nat) (s0 : ByteArray) (b1 : Bool) (j2 : Int) (s3 : ByteArray) (s4 : ByteArray) (b5 : Bool) (r6 : Rows) (s7 : ByteArray) (b8 : Bool) (j9 : Int) (s10 : ByteArray) (b11 : Bool) (r12 : Rows) (j13 : Int) (i0 : Nat) (b15 : Bool) (r16 : List (List DV)) (j25 : Int) : Option ((Bool × Rows) × Unit) :=
  DM.loopFn tm (check_Bound_Φ n) check_Bound_lv n Tryd.f29 true [] (OSh.chk (OSh.plain (.slt [Kd.s] 0) [])) 5 [] i0 (St.mk [Jk, Jk, Jk, Jk, Jk, AV.pl 5 0, AV.fn 56 [AV.pl 5 0], Jk, Jk, Jk, Jk, Jk, Jk, Jk, Jk, Jk, Jk, Jk, Jk, Jk, Jk, Jk, Jk, Jk, AV.sl b11 kdL (List.drop 0 (List.take (Int.toNat (if (↑(List.length r12) : Int) < if 0 > j13 then 0 else j13 then (↑(List.length r12) : Int) else if 0 > j13 then 0 else j13)) r12)) Right.no, AV.dv (DV.val (Value.int IntKind.i64 (↑(List.length (List.drop 0 (List.take (Int.toNat (if (↑(List.length r12) : Int) < if 0 > j13 then 0 else j13 then (↑(List.length r12) : Int) else if 0 > j13 then 0 else j13)) r12))) : Int))), AV.dv (DV.val (Value.int IntKind.i64 j25)), Jk, Jk, Jk, Jk, Jk, Jk, Jk, Jk, Jk, Jk, Jk, Jk, Jk, Jk, Jk, Jk] [(5, [AV.sl b15 [Kd.s] r16 (Right.tok 20320)])])
noncomputable def check_Bound_l8 (n : Nat) (s0 : ByteArray) (b1 : Bool) (j2 : Int) (s3 : ByteArray) (s4 : ByteArray) (b5 : Bool) (r6 : Rows) (s7 : ByteArray) (b8 : Bool) (j9 : Int) (s10 : ByteArray) (b11 : Bool) (r12 : Rows) (j13 : Int) (i0 i1 : Nat) (b18 : Bool) (r19 : List (List DV)) (j20 : Int) (b21 : Bool) (r22 : List (List DV)) (j24 : Int) (j27 : Int) : Option ((Bool × Rows) × Unit) :=
  DM.loopFn tm (check_Bound_Φ n) check_Bound_lv n Tryd.f29 true [] (OSh.chk (OSh.plain (.slt [Kd.s] 0) [])) 8 [i0] i1 (St.mk [Jk, Jk, Jk, Jk, Jk, AV.pl 5 0, AV.fn 56 [AV.pl 5 0], Jk, Jk, Jk, Jk, Jk, Jk, Jk, Jk, Jk, Jk, Jk, Jk, Jk, Jk, Jk, Jk, Jk, AV.sl b11 kdL (List.drop 0 (List.take (Int.toNat (if (↑(List.length r12) : Int) < if 0 > j13 then 0 else j13 then (↑(List.length r12) : Int) else if 0 > j13 then 0 else j13)) r12)) Right.no, AV.dv (DV.val (Value.int IntKind.i64 (↑(List.length (List.drop 0 (List.take (Int.toNat (if (↑(List.length r12) : Int) < if 0 > j13 then 0 else j13 then (↑(List.length r12) : Int) else if 0 > j13 then 0 else j13)) r12))) : Int))), AV.dv (DV.val (Value.int IntKind.i64 j27)), Jk, Jk, Jk, Jk, AV.sl b18 kdT r19 Right.no, AV.dv (DV.val (Value.int IntKind.i64 j20)), AV.dv (DV.val (Value.int IntKind.i64 j24)), Jk, Jk, Jk, Jk, Jk, Jk, Jk, Jk, Jk] [(5, [AV.sl b21 [Kd.s] r22 (Right.tok 20320)])])
theorem check_Bound_s5 (n : Nat) (s0 : ByteArray) (b1 : Bool) (j2 : Int) (s3 : ByteArray) (s4 : ByteArray) (b5 : Bool) (r6 : Rows) (s7 : ByteArray) (b8 : Bool) (j9 : Int) (s10 : ByteArray) (b11 : Bool) (r12 : Rows) (j13 : Int) (i0 : Nat) (b15 : Bool) (r16 : List (List DV)) (j25 : Int) : check_Bound_l5 n s0 b1 j2 s3 s4 b5 r6 s7 b8 j9 s10 b11 r12 j13 (i0 + 1) b15 r16 j25 =
  bif decide (j25 < (↑(List.length (List.drop 0 (List.take (Int.toNat (if (↑(List.length r12) : Int) < if 0 > j13 then 0 else j13 then (↑(List.length r12) : Int) else if 0 > j13 then 0 else j13)) r12))) : Int)) then
    if 0 ≤ j25 then
      if j25 < (↑(List.length (List.drop 0 (List.take (Int.toNat (if (↑(List.length r12) : Int) < if 0 > j13 then 0 else j13 then (↑(List.length r12) : Int) else if 0 > j13 then 0 else j13)) r12))) : Int) then
        obind (check_terms_v n (Row.S (List.getD (List.drop 0 (List.take (Int.toNat (if (↑(List.length r12) : Int) < if 0 > j13 then 0 else j13 then (↑(List.length r12) : Int) else if 0 > j13 then 0 else j13)) r12)) (Int.toNat j25) []) 0) (Row.B (List.getD (List.drop 0 (List.take (Int.toNat (if (↑(List.length r12) : Int) < if 0 > j13 then 0 else j13 then (↑(List.length r12) : Int) else if 0 > j13 then 0 else j13)) r12)) (Int.toNat j25) []) 1) (Row.I (List.getD (List.drop 0 (List.take (Int.toNat (if (↑(List.length r12) : Int) < if 0 > j13 then 0 else j13 then (↑(List.length r12) : Int) else if 0 > j13 then 0 else j13)) r12)) (Int.toNat j25) []) 2) (Row.S (List.getD (List.drop 0 (List.take (Int.toNat (if (↑(List.length r12) : Int) < if 0 > j13 then 0 else j13 then (↑(List.length r12) : Int) else if 0 > j13 then 0 else j13)) r12)) (Int.toNat j25) []) 3) (Row.S (List.getD (List.drop 0 (List.take (Int.toNat (if (↑(List.length r12) : Int) < if 0 > j13 then 0 else j13 then (↑(List.length r12) : Int) else if 0 > j13 then 0 else j13)) r12)) (Int.toNat j25) []) 4) (Row.N (List.getD (List.drop 0 (List.take (Int.toNat (if (↑(List.length r12) : Int) < if 0 > j13 then 0 else j13 then (↑(List.length r12) : Int) else if 0 > j13 then 0 else j13)) r12)) (Int.toNat j25) []) 5) (Row.R (List.getD (List.drop 0 (List.take (Int.toNat (if (↑(List.length r12) : Int) < if 0 > j13 then 0 else j13 then (↑(List.length r12) : Int) else if 0 > j13 then 0 else j13)) r12)) (Int.toNat j25) []) 5) (Row.S (List.getD (List.drop 0 (List.take (Int.toNat (if (↑(List.length r12) : Int) < if 0 > j13 then 0 else j13 then (↑(List.length r12) : Int) else if 0 > j13 then 0 else j13)) r12)) (Int.toNat j25) []) 6) (Row.B (List.getD (List.drop 0 (List.take (Int.toNat (if (↑(List.length r12) : Int) < if 0 > j13 then 0 else j13 then (↑(List.length r12) : Int) else if 0 > j13 then 0 else j13)) r12)) (Int.toNat j25) []) 7) (Row.I (List.getD (List.drop 0 (List.take (Int.toNat (if (↑(List.length r12) : Int) < if 0 > j13 then 0 else j13 then (↑(List.length r12) : Int) else if 0 > j13 then 0 else j13)) r12)) (Int.toNat j25) []) 8) (Row.S (List.getD (List.drop 0 (List.take (Int.toNat (if (↑(List.length r12) : Int) < if 0 > j13 then 0 else j13 then (↑(List.length r12) : Int) else if 0 > j13 then 0 else j13)) r12)) (Int.toNat j25) []) 9)) fun y26 =>
        check_Bound_l8 n s0 b1 j2 s3 s4 b5 r6 s7 b8 j9 s10 b11 r12 j13 i0 n y26.fst.fst y26.fst.snd ((↑(List.length y26.fst.snd) : Int)) b15 r16 0 j25
      else none
    else none
  else some ((b15, r16), ()) := by kernel_rfl
theorem check_Bound_s8 (n : Nat) (s0 : ByteArray) (b1 : Bool) (j2 : Int) (s3 : ByteArray) (s4 : ByteArray) (b5 : Bool) (r6 : Rows) (s7 : ByteArray) (b8 : Bool) (j9 : Int) (s10 : ByteArray) (b11 : Bool) (r12 : Rows) (j13 : Int) (i0 i1 : Nat) (b18 : Bool) (r19 : List (List DV)) (j20 : Int) (b21 : Bool) (r22 : List (List DV)) (j24 : Int) (j27 : Int) : check_Bound_l8 n s0 b1 j2 s3 s4 b5 r6 s7 b8 j9 s10 b11 r12 j13 i0 (i1 + 1) b18 r19 j20 b21 r22 j24 j27 =
  bif decide (j24 < j20) then
    if 0 ≤ j24 then
      if j24 < (↑(List.length r19) : Int) then
        obind (check_Bound_1_v n (Row.S (List.getD r19 (Int.toNat j24) []) 0) (Row.B (List.getD r19 (Int.toNat j24) []) 1) (Row.I (List.getD r19 (Int.toNat j24) []) 2) (Row.S (List.getD r19 (Int.toNat j24) []) 3) b21 r22) fun y28 =>
        check_Bound_l8 n s0 b1 j2 s3 s4 b5 r6 s7 b8 j9 s10 b11 r12 j13 i0 i1 b18 r19 j20 y28.snd.fst.fst.fst y28.snd.fst.fst.snd (IntKind.wrap IntKind.i64 (j24 + 1)) j27
      else none
    else none
  else check_Bound_l5 n s0 b1 j2 s3 s4 b5 r6 s7 b8 j9 s10 b11 r12 j13 i0 b21 r22 (IntKind.wrap IntKind.i64 (j27 + 1)) := by kernel_rfl
theorem check_Bound_e (n : Nat) (s0 : ByteArray) (b1 : Bool) (j2 : Int) (s3 : ByteArray) (s4 : ByteArray) (b5 : Bool) (r6 : Rows) (s7 : ByteArray) (b8 : Bool) (j9 : Int) (s10 : ByteArray) (b11 : Bool) (r12 : Rows) (j13 : Int) : check_Bound_v n s0 b1 j2 s3 s4 b5 r6 s7 b8 j9 s10 b11 r12 j13 =
  obind (check_Bound_1_v n s0 b1 j2 s3 true []) fun y14 =>
  if 0 ≤ if (↑(List.length r12) : Int) < if 0 > j13 then 0 else j13 then (↑(List.length r12) : Int) else if 0 > j13 then 0 else j13 then
    if (if (↑(List.length r12) : Int) < if 0 > j13 then 0 else j13 then (↑(List.length r12) : Int) else if 0 > j13 then 0 else j13) ≤ (↑(List.length r12) : Int) then
      check_Bound_l5 n s0 b1 j2 s3 s4 b5 r6 s7 b8 j9 s10 b11 r12 j13 n y14.snd.fst.fst.fst y14.snd.fst.fst.snd 0
    else none
  else none := by kernel_rfl
theorem check_Bound_c (n : Nat) (s0 : ByteArray) (b1 : Bool) (j2 : Int) (s3 : ByteArray) (s4 : ByteArray) (b5 : Bool) (r6 : Rows) (s7 : ByteArray) (b8 : Bool) (j9 : Int) (s10 : ByteArray) (b11 : Bool) (r12 : Rows) (j13 : Int) (y : (Bool × Rows) × Unit) (h : check_Bound_v n s0 b1 j2 s3 s4 b5 r6 s7 b8 j9 s10 b11 r12 j13 = some y) : Contract Tryd.prog 29 [AV.agg [AV.dv (DV.val (Value.string s0)), AV.dv (DV.val (Value.bool b1)), AV.dv (DV.val (Value.int IntKind.i64 j2)), AV.dv (DV.val (Value.string s3)), AV.dv (DV.val (Value.string s4)), AV.sl b5 kdT r6 Right.no, AV.dv (DV.val (Value.string s7)), AV.dv (DV.val (Value.bool b8)), AV.dv (DV.val (Value.int IntKind.i64 j9)), AV.dv (DV.val (Value.string s10)), AV.sl b11 kdL r12 Right.no], AV.dv (DV.val (Value.int IntKind.i64 j13))] [] (OSh.enc (OSh.plain (.slt [Kd.s] 0) []) y) :=
  ac (OSh.plain (.slt [Kd.s] 0) []) (check_Bound_σok n) Tryd.func29 (by decide) h
def check_free_lv : Live := [(2, [1, 6, 7, 8], [1, 1000, 1001, 1002, 1003])]
noncomputable def check_free_σ (n : Nat) : Spec := (inst 29 [.agg [.s, .b, .i IntKind.i64, .s, .s, .sl kdT, .s, .b, .i IntKind.i64, .s, .sl kdL], .i IntKind.i64] [] (OSh.plain (.slt [Kd.s] 0) []) (fun x e => check_Bound_v n x.1.1 x.1.2.1 x.1.2.2.1 x.1.2.2.2.1 x.1.2.2.2.2.1 x.1.2.2.2.2.2.1.1 x.1.2.2.2.2.2.1.2 x.1.2.2.2.2.2.2.1 x.1.2.2.2.2.2.2.2.1 x.1.2.2.2.2.2.2.2.2.1 x.1.2.2.2.2.2.2.2.2.2.1 x.1.2.2.2.2.2.2.2.2.2.2.1.1 x.1.2.2.2.2.2.2.2.2.2.2.1.2 x.2.1) (inst 57 [.sl [Kd.s], .s] [] (OSh.plain (.b) []) (fun x e => slices_Contains_v n x.1.1 x.1.2 x.2.1) Spec.none))
theorem check_free_σok (n : Nat) : SpecOk Tryd.prog (check_free_σ n) := (inst_ok (fun x e y h => check_Bound_c n x.1.1 x.1.2.1 x.1.2.2.1 x.1.2.2.2.1 x.1.2.2.2.2.1 x.1.2.2.2.2.2.1.1 x.1.2.2.2.2.2.1.2 x.1.2.2.2.2.2.2.1 x.1.2.2.2.2.2.2.2.1 x.1.2.2.2.2.2.2.2.2.1 x.1.2.2.2.2.2.2.2.2.2.1 x.1.2.2.2.2.2.2.2.2.2.2.1.1 x.1.2.2.2.2.2.2.2.2.2.2.1.2 x.2.1 y h) (inst_ok (fun x e y h => slices_Contains_c n x.1.1 x.1.2 x.2.1 y h) (SpecOk.none _)))
noncomputable def check_free_Φ (n : Nat) : Orc := with_ Tryd.prog (check_free_σ n) [] n 0 hsL
noncomputable def check_free_v (n : Nat) (s0 : ByteArray) (b1 : Bool) (j2 : Int) (s3 : ByteArray) (s4 : ByteArray) (b5 : Bool) (r6 : Rows) (s7 : ByteArray) (b8 : Bool) (j9 : Int) (s10 : ByteArray) (b11 : Bool) (r12 : Rows) : Option (Int × Unit) :=
  DM.denFn tm (check_free_Φ n) check_free_lv n Tryd.f62 false [AV.agg [AV.dv (DV.val (Value.string s0)), AV.dv (DV.val (Value.bool b1)), AV.dv (DV.val (Value.int IntKind.i64 j2)), AV.dv (DV.val (Value.string s3)), AV.dv (DV.val (Value.string s4)), AV.sl b5 kdT r6 Right.no, AV.dv (DV.val (Value.string s7)), AV.dv (DV.val (Value.bool b8)), AV.dv (DV.val (Value.int IntKind.i64 j9)), AV.dv (DV.val (Value.string s10)), AV.sl b11 kdL r12 Right.no]] [] (OSh.chk (OSh.plain (.i IntKind.i64) []))
noncomputable def check_free_l2 (n : Nat) (s0 : ByteArray) (b1 : Bool) (j2 : Int) (s3 : ByteArray) (s4 : ByteArray) (b5 : Bool) (r6 : Rows) (s7 : ByteArray) (b8 : Bool) (j9 : Int) (s10 : ByteArray) (b11 : Bool) (r12 : Rows) (i0 : Nat) (j15 : Int) : Option (Int × Unit) :=
  DM.loopFn tm (check_free_Φ n) check_free_lv n Tryd.f62 false [] (OSh.chk (OSh.plain (.i IntKind.i64) [])) 2 [] i0 (St.mk [Jk, AV.pl 1 0, Jk, Jk, Jk, Jk, AV.sl b11 kdL r12 Right.no, AV.dv (DV.val (Value.int IntKind.i64 (↑(List.length r12) : Int))), AV.dv (DV.val (Value.int IntKind.i64 j15)), Jk, Jk, Jk, Jk, Jk, Jk, Jk, Jk, Jk, Jk, Jk, Jk, Jk, Jk, Jk, Jk, Jk, Jk, Jk, Jk] [(1, [AV.dv (DV.val (Value.string s0)), AV.dv (DV.val (Value.bool b1)), AV.dv (DV.val (Value.int IntKind.i64 j2)), AV.dv (DV.val (Value.string s3)), AV.dv (DV.val (Value.string s4)), AV.sl b5 kdT r6 Right.no, AV.dv (DV.val (Value.string s7)), AV.dv (DV.val (Value.bool b8)), AV.dv (DV.val (Value.int IntKind.i64 j9)), AV.dv (DV.val (Value.string s10)), AV.sl b11 kdL r12 Right.no])])
theorem check_free_s2 (n : Nat) (s0 : ByteArray) (b1 : Bool) (j2 : Int) (s3 : ByteArray) (s4 : ByteArray) (b5 : Bool) (r6 : Rows) (s7 : ByteArray) (b8 : Bool) (j9 : Int) (s10 : ByteArray) (b11 : Bool) (r12 : Rows) (i0 : Nat) (j15 : Int) : check_free_l2 n s0 b1 j2 s3 s4 b5 r6 s7 b8 j9 s10 b11 r12 (i0 + 1) j15 =
  bif decide (j15 < (↑(List.length r12) : Int)) then
    if 0 ≤ j15 then
      if j15 < (↑(List.length r12) : Int) then
        bif !Row.S (List.getD r12 (Int.toNat j15) []) 6 == ByteArray.mk #[] then
          obind (check_Bound_v n s0 b1 j2 s3 s4 b5 r6 s7 b8 j9 s10 b11 r12 j15) fun y16 =>
          obind (slices_Contains_v n y16.fst.fst y16.fst.snd (Row.S (List.getD r12 (Int.toNat j15) []) 6)) fun y17 =>
          bif !y17.fst then
            some (j15, ())
          else check_free_l2 n s0 b1 j2 s3 s4 b5 r6 s7 b8 j9 s10 b11 r12 i0 (IntKind.wrap IntKind.i64 (j15 + 1))
        else check_free_l2 n s0 b1 j2 s3 s4 b5 r6 s7 b8 j9 s10 b11 r12 i0 (IntKind.wrap IntKind.i64 (j15 + 1))
      else none
    else none
  else some (-2, ()) := by kernel_rfl
theorem check_free_e (n : Nat) (s0 : ByteArray) (b1 : Bool) (j2 : Int) (s3 : ByteArray) (s4 : ByteArray) (b5 : Bool) (r6 : Rows) (s7 : ByteArray) (b8 : Bool) (j9 : Int) (s10 : ByteArray) (b11 : Bool) (r12 : Rows) : check_free_v n s0 b1 j2 s3 s4 b5 r6 s7 b8 j9 s10 b11 r12 =
  check_free_l2 n s0 b1 j2 s3 s4 b5 r6 s7 b8 j9 s10 b11 r12 n 0 := by kernel_rfl
theorem check_free_c (n : Nat) (s0 : ByteArray) (b1 : Bool) (j2 : Int) (s3 : ByteArray) (s4 : ByteArray) (b5 : Bool) (r6 : Rows) (s7 : ByteArray) (b8 : Bool) (j9 : Int) (s10 : ByteArray) (b11 : Bool) (r12 : Rows) (y : Int × Unit) (h : check_free_v n s0 b1 j2 s3 s4 b5 r6 s7 b8 j9 s10 b11 r12 = some y) : Contract Tryd.prog 62 [AV.agg [AV.dv (DV.val (Value.string s0)), AV.dv (DV.val (Value.bool b1)), AV.dv (DV.val (Value.int IntKind.i64 j2)), AV.dv (DV.val (Value.string s3)), AV.dv (DV.val (Value.string s4)), AV.sl b5 kdT r6 Right.no, AV.dv (DV.val (Value.string s7)), AV.dv (DV.val (Value.bool b8)), AV.dv (DV.val (Value.int IntKind.i64 j9)), AV.dv (DV.val (Value.string s10)), AV.sl b11 kdL r12 Right.no]] [] (OSh.enc (OSh.plain (.i IntKind.i64) []) y) :=
  ac (OSh.plain (.i IntKind.i64) []) (check_free_σok n) Tryd.func62 (by decide) h
def check_Vars_lv : Live := []
noncomputable def check_Vars_σ (n : Nat) : Spec := (inst 29 [.agg [.s, .b, .i IntKind.i64, .s, .s, .sl kdT, .s, .b, .i IntKind.i64, .s, .sl kdL], .i IntKind.i64] [] (OSh.plain (.slt [Kd.s] 0) []) (fun x e => check_Bound_v n x.1.1 x.1.2.1 x.1.2.2.1 x.1.2.2.2.1 x.1.2.2.2.2.1 x.1.2.2.2.2.2.1.1 x.1.2.2.2.2.2.1.2 x.1.2.2.2.2.2.2.1 x.1.2.2.2.2.2.2.2.1 x.1.2.2.2.2.2.2.2.2.1 x.1.2.2.2.2.2.2.2.2.2.1 x.1.2.2.2.2.2.2.2.2.2.2.1.1 x.1.2.2.2.2.2.2.2.2.2.2.1.2 x.2.1) Spec.none)
theorem check_Vars_σok (n : Nat) : SpecOk Tryd.prog (check_Vars_σ n) := (inst_ok (fun x e y h => check_Bound_c n x.1.1 x.1.2.1 x.1.2.2.1 x.1.2.2.2.1 x.1.2.2.2.2.1 x.1.2.2.2.2.2.1.1 x.1.2.2.2.2.2.1.2 x.1.2.2.2.2.2.2.1 x.1.2.2.2.2.2.2.2.1 x.1.2.2.2.2.2.2.2.2.1 x.1.2.2.2.2.2.2.2.2.2.1 x.1.2.2.2.2.2.2.2.2.2.2.1.1 x.1.2.2.2.2.2.2.2.2.2.2.1.2 x.2.1 y h) (SpecOk.none _))
noncomputable def check_Vars_Φ (n : Nat) : Orc := with_ Tryd.prog (check_Vars_σ n) [] n 0 hsL
noncomputable def check_Vars_v (n : Nat) (s0 : ByteArray) (b1 : Bool) (j2 : Int) (s3 : ByteArray) (s4 : ByteArray) (b5 : Bool) (r6 : Rows) (s7 : ByteArray) (b8 : Bool) (j9 : Int) (s10 : ByteArray) (b11 : Bool) (r12 : Rows) : Option ((Bool × Rows) × Unit) :=
  DM.denFn tm (check_Vars_Φ n) check_Vars_lv n Tryd.f27 true [AV.agg [AV.dv (DV.val (Value.string s0)), AV.dv (DV.val (Value.bool b1)), AV.dv (DV.val (Value.int IntKind.i64 j2)), AV.dv (DV.val (Value.string s3)), AV.dv (DV.val (Value.string s4)), AV.sl b5 kdT r6 Right.no, AV.dv (DV.val (Value.string s7)), AV.dv (DV.val (Value.bool b8)), AV.dv (DV.val (Value.int IntKind.i64 j9)), AV.dv (DV.val (Value.string s10)), AV.sl b11 kdL r12 Right.no]] [] (OSh.chk (OSh.plain (.slt [Kd.s] 0) []))
theorem check_Vars_e (n : Nat) (s0 : ByteArray) (b1 : Bool) (j2 : Int) (s3 : ByteArray) (s4 : ByteArray) (b5 : Bool) (r6 : Rows) (s7 : ByteArray) (b8 : Bool) (j9 : Int) (s10 : ByteArray) (b11 : Bool) (r12 : Rows) : check_Vars_v n s0 b1 j2 s3 s4 b5 r6 s7 b8 j9 s10 b11 r12 =
  obind (check_Bound_v n s0 b1 j2 s3 s4 b5 r6 s7 b8 j9 s10 b11 r12 ((↑(List.length r12) : Int))) fun y13 =>
  some ((y13.fst.fst, y13.fst.snd), ()) := by kernel_rfl
theorem check_Vars_c (n : Nat) (s0 : ByteArray) (b1 : Bool) (j2 : Int) (s3 : ByteArray) (s4 : ByteArray) (b5 : Bool) (r6 : Rows) (s7 : ByteArray) (b8 : Bool) (j9 : Int) (s10 : ByteArray) (b11 : Bool) (r12 : Rows) (y : (Bool × Rows) × Unit) (h : check_Vars_v n s0 b1 j2 s3 s4 b5 r6 s7 b8 j9 s10 b11 r12 = some y) : Contract Tryd.prog 27 [AV.agg [AV.dv (DV.val (Value.string s0)), AV.dv (DV.val (Value.bool b1)), AV.dv (DV.val (Value.int IntKind.i64 j2)), AV.dv (DV.val (Value.string s3)), AV.dv (DV.val (Value.string s4)), AV.sl b5 kdT r6 Right.no, AV.dv (DV.val (Value.string s7)), AV.dv (DV.val (Value.bool b8)), AV.dv (DV.val (Value.int IntKind.i64 j9)), AV.dv (DV.val (Value.string s10)), AV.sl b11 kdL r12 Right.no]] [] (OSh.enc (OSh.plain (.slt [Kd.s] 0) []) y) :=
  ac (OSh.plain (.slt [Kd.s] 0) []) (check_Vars_σok n) Tryd.func27 (by decide) h
def check_open_1_lv : Live := []
noncomputable def check_open_1_σ (n : Nat) : Spec := (inst 57 [.sl [Kd.s], .s] [] (OSh.plain (.b) []) (fun x e => slices_Contains_v n x.1.1 x.1.2 x.2.1) Spec.none)
theorem check_open_1_σok (n : Nat) : SpecOk Tryd.prog (check_open_1_σ n) := (inst_ok (fun x e y h => slices_Contains_c n x.1.1 x.1.2 x.2.1 y h) (SpecOk.none _))
noncomputable def check_open_1_Φ (n : Nat) : Orc := with_ Tryd.prog (check_open_1_σ n) [] n 0 hsL
noncomputable def check_open_1_v (n : Nat) (s0 : ByteArray) (b1 : Bool) (j2 : Int) (s3 : ByteArray) (b4 : Bool) (r5 : Rows) : Option (Bool × ((Bool × Rows) × Unit) × Unit) :=
  DM.denFn tm (check_open_1_Φ n) check_open_1_lv n Tryd.f85 false [AV.agg [AV.dv (DV.val (Value.string s0)), AV.dv (DV.val (Value.bool b1)), AV.dv (DV.val (Value.int IntKind.i64 j2)), AV.dv (DV.val (Value.string s3))], AV.pl 1000 0] [[AV.sl b4 [Kd.s] r5 Right.no]] (OSh.chk (OSh.plain (.b) [[.sl [Kd.s]]]))
theorem check_open_1_e (n : Nat) (s0 : ByteArray) (b1 : Bool) (j2 : Int) (s3 : ByteArray) (b4 : Bool) (r5 : Rows) : check_open_1_v n s0 b1 j2 s3 b4 r5 =
  bif !s0 == ByteArray.mk #[] then
    obind (slices_Contains_v n b4 r5 s0) fun y6 =>
    some (!y6.fst, (((b4, r5), ()), ()))
  else some (false, (((b4, r5), ()), ())) := by kernel_rfl
theorem check_open_1_c (n : Nat) (s0 : ByteArray) (b1 : Bool) (j2 : Int) (s3 : ByteArray) (b4 : Bool) (r5 : Rows) (y : Bool × ((Bool × Rows) × Unit) × Unit) (h : check_open_1_v n s0 b1 j2 s3 b4 r5 = some y) : Contract Tryd.prog 85 [AV.agg [AV.dv (DV.val (Value.string s0)), AV.dv (DV.val (Value.bool b1)), AV.dv (DV.val (Value.int IntKind.i64 j2)), AV.dv (DV.val (Value.string s3))], AV.pl 1000 0] [[AV.sl b4 [Kd.s] r5 Right.no]] (OSh.enc (OSh.plain (.b) [[.sl [Kd.s]]]) y) :=
  ac (OSh.plain (.b) [[.sl [Kd.s]]]) (check_open_1_σok n) Tryd.func85 (by decide) h
def slices_IndexFunc_i2_check_open_1_lv : Live := [(2, [0, 1, 7, 8], [1000, 1001, 1002, 1003])]
noncomputable def slices_IndexFunc_i2_check_open_1_σ (n : Nat) : Spec := (inst 85 [.agg [.s, .b, .i IntKind.i64, .s], .pl 1000 0] [[.sl [Kd.s]]] (OSh.plain (.b) [[.sl [Kd.s]]]) (fun x e => check_open_1_v n x.1.1 x.1.2.1 x.1.2.2.1 x.1.2.2.2.1 e.1.1.1 e.1.1.2) Spec.none)
theorem slices_IndexFunc_i2_check_open_1_σok (n : Nat) : SpecOk Tryd.prog (slices_IndexFunc_i2_check_open_1_σ n) := (inst_ok (fun x e y h => check_open_1_c n x.1.1 x.1.2.1 x.1.2.2.1 x.1.2.2.2.1 e.1.1.1 e.1.1.2 y h) (SpecOk.none _))
noncomputable def slices_IndexFunc_i2_check_open_1_Φ (n : Nat) : Orc := with_ Tryd.prog (slices_IndexFunc_i2_check_open_1_σ n) [] n 0 hsL
noncomputable def slices_IndexFunc_i2_check_open_1_v (n : Nat) (b0 : Bool) (r1 : Rows) (b2 : Bool) (r3 : Rows) : Option (Int × ((Bool × Rows) × Unit) × Unit) :=
  DM.denFn tm (slices_IndexFunc_i2_check_open_1_Φ n) slices_IndexFunc_i2_check_open_1_lv n Tryd.f101 false [AV.sl b0 kdT r1 Right.no, AV.fn 85 [AV.pl 1000 0]] [[AV.sl b2 [Kd.s] r3 Right.no]] (OSh.chk (OSh.plain (.i IntKind.i64) [[.sl [Kd.s]]]))
noncomputable def slices_IndexFunc_i2_check_open_1_l2 (n : Nat) (b0 : Bool) (r1 : Rows) (b2 : Bool) (r3 : Rows) (i0 : Nat) (j5 : Int) (b6 : Bool) (r7 : List (List DV)) : Option (Int × ((Bool × Rows) × Unit) × Unit) :=
  DM.loopFn tm (slices_IndexFunc_i2_check_open_1_Φ n) slices_IndexFunc_i2_check_open_1_lv n Tryd.f101 false [[AV.sl b2 [Kd.s] r3 Right.no]] (OSh.chk (OSh.plain (.i IntKind.i64) [[.sl [Kd.s]]])) 2 [] i0 (St.mk [AV.sl b0 kdT r1 Right.no, AV.fn 85 [AV.pl 1000 0], Jk, Jk, Jk, Jk, Jk, AV.dv (DV.val (Value.int IntKind.i64 (↑(List.length r1) : Int))), AV.dv (DV.val (Value.int IntKind.i64 j5)), Jk, Jk, Jk, Jk, Jk, Jk, Jk, Jk, Jk, Jk] [(1000, [AV.sl b6 [Kd.s] r7 Right.no])])
theorem slices_IndexFunc_i2_check_open_1_s2 (n : Nat) (b0 : Bool) (r1 : Rows) (b2 : Bool) (r3 : Rows) (i0 : Nat) (j5 : Int) (b6 : Bool) (r7 : List (List DV)) : slices_IndexFunc_i2_check_open_1_l2 n b0 r1 b2 r3 (i0 + 1) j5 b6 r7 =
  bif decide (j5 < (↑(List.length r1) : Int)) then
    if 0 ≤ j5 then
      if j5 < (↑(List.length r1) : Int) then
        obind (check_open_1_v n (Row.S (List.getD r1 (Int.toNat j5) []) 0) (Row.B (List.getD r1 (Int.toNat j5) []) 1) (Row.I (List.getD r1 (Int.toNat j5) []) 2) (Row.S (List.getD r1 (Int.toNat j5) []) 3) b6 r7) fun y8 =>
        bif y8.fst then
          some (j5, (((y8.snd.fst.fst.fst, y8.snd.fst.fst.snd), ()), ()))
        else slices_IndexFunc_i2_check_open_1_l2 n b0 r1 b2 r3 i0 (IntKind.wrap IntKind.i64 (j5 + 1)) y8.snd.fst.fst.fst y8.snd.fst.fst.snd
      else none
    else none
  else some (-1, (((b6, r7), ()), ())) := by kernel_rfl
theorem slices_IndexFunc_i2_check_open_1_e (n : Nat) (b0 : Bool) (r1 : Rows) (b2 : Bool) (r3 : Rows) : slices_IndexFunc_i2_check_open_1_v n b0 r1 b2 r3 =
  slices_IndexFunc_i2_check_open_1_l2 n b0 r1 b2 r3 n 0 b2 r3 := by kernel_rfl
theorem slices_IndexFunc_i2_check_open_1_c (n : Nat) (b0 : Bool) (r1 : Rows) (b2 : Bool) (r3 : Rows) (y : Int × ((Bool × Rows) × Unit) × Unit) (h : slices_IndexFunc_i2_check_open_1_v n b0 r1 b2 r3 = some y) : Contract Tryd.prog 101 [AV.sl b0 kdT r1 Right.no, AV.fn 85 [AV.pl 1000 0]] [[AV.sl b2 [Kd.s] r3 Right.no]] (OSh.enc (OSh.plain (.i IntKind.i64) [[.sl [Kd.s]]]) y) :=
  ac (OSh.plain (.i IntKind.i64) [[.sl [Kd.s]]]) (slices_IndexFunc_i2_check_open_1_σok n) Tryd.func101 (by decide) h
def slices_ContainsFunc_check_open_1_lv : Live := []
noncomputable def slices_ContainsFunc_check_open_1_σ (n : Nat) : Spec := (inst 101 [.sl kdT, .fn 85 [.pl 1000 0]] [[.sl [Kd.s]]] (OSh.plain (.i IntKind.i64) [[.sl [Kd.s]]]) (fun x e => slices_IndexFunc_i2_check_open_1_v n x.1.1 x.1.2 e.1.1.1 e.1.1.2) Spec.none)
theorem slices_ContainsFunc_check_open_1_σok (n : Nat) : SpecOk Tryd.prog (slices_ContainsFunc_check_open_1_σ n) := (inst_ok (fun x e y h => slices_IndexFunc_i2_check_open_1_c n x.1.1 x.1.2 e.1.1.1 e.1.1.2 y h) (SpecOk.none _))
noncomputable def slices_ContainsFunc_check_open_1_Φ (n : Nat) : Orc := with_ Tryd.prog (slices_ContainsFunc_check_open_1_σ n) [] n 0 hsL
noncomputable def slices_ContainsFunc_check_open_1_v (n : Nat) (b0 : Bool) (r1 : Rows) (b2 : Bool) (r3 : Rows) : Option (Bool × ((Bool × Rows) × Unit) × Unit) :=
  DM.denFn tm (slices_ContainsFunc_check_open_1_Φ n) slices_ContainsFunc_check_open_1_lv n Tryd.f84 false [AV.sl b0 kdT r1 Right.no, AV.fn 85 [AV.pl 1000 0]] [[AV.sl b2 [Kd.s] r3 Right.no]] (OSh.chk (OSh.plain (.b) [[.sl [Kd.s]]]))
theorem slices_ContainsFunc_check_open_1_e (n : Nat) (b0 : Bool) (r1 : Rows) (b2 : Bool) (r3 : Rows) : slices_ContainsFunc_check_open_1_v n b0 r1 b2 r3 =
  obind (slices_IndexFunc_i2_check_open_1_v n b0 r1 b2 r3) fun y4 =>
  some (decide (y4.fst ≥ 0), (((y4.snd.fst.fst.fst, y4.snd.fst.fst.snd), ()), ())) := by kernel_rfl
theorem slices_ContainsFunc_check_open_1_c (n : Nat) (b0 : Bool) (r1 : Rows) (b2 : Bool) (r3 : Rows) (y : Bool × ((Bool × Rows) × Unit) × Unit) (h : slices_ContainsFunc_check_open_1_v n b0 r1 b2 r3 = some y) : Contract Tryd.prog 84 [AV.sl b0 kdT r1 Right.no, AV.fn 85 [AV.pl 1000 0]] [[AV.sl b2 [Kd.s] r3 Right.no]] (OSh.enc (OSh.plain (.b) [[.sl [Kd.s]]]) y) :=
  ac (OSh.plain (.b) [[.sl [Kd.s]]]) (slices_ContainsFunc_check_open_1_σok n) Tryd.func84 (by decide) h
def check_open_lv : Live := []
noncomputable def check_open_σ (n : Nat) : Spec := (inst 27 [.agg [.s, .b, .i IntKind.i64, .s, .s, .sl kdT, .s, .b, .i IntKind.i64, .s, .sl kdL]] [] (OSh.plain (.slt [Kd.s] 0) []) (fun x e => check_Vars_v n x.1.1 x.1.2.1 x.1.2.2.1 x.1.2.2.2.1 x.1.2.2.2.2.1 x.1.2.2.2.2.2.1.1 x.1.2.2.2.2.2.1.2 x.1.2.2.2.2.2.2.1 x.1.2.2.2.2.2.2.2.1 x.1.2.2.2.2.2.2.2.2.1 x.1.2.2.2.2.2.2.2.2.2.1 x.1.2.2.2.2.2.2.2.2.2.2.1.1 x.1.2.2.2.2.2.2.2.2.2.2.1.2) (inst 84 [.sl kdT, .fn 85 [.pl 1000 0]] [[.sl [Kd.s]]] (OSh.plain (.b) [[.sl [Kd.s]]]) (fun x e => slices_ContainsFunc_check_open_1_v n x.1.1 x.1.2 e.1.1.1 e.1.1.2) Spec.none))
theorem check_open_σok (n : Nat) : SpecOk Tryd.prog (check_open_σ n) := (inst_ok (fun x e y h => check_Vars_c n x.1.1 x.1.2.1 x.1.2.2.1 x.1.2.2.2.1 x.1.2.2.2.2.1 x.1.2.2.2.2.2.1.1 x.1.2.2.2.2.2.1.2 x.1.2.2.2.2.2.2.1 x.1.2.2.2.2.2.2.2.1 x.1.2.2.2.2.2.2.2.2.1 x.1.2.2.2.2.2.2.2.2.2.1 x.1.2.2.2.2.2.2.2.2.2.2.1.1 x.1.2.2.2.2.2.2.2.2.2.2.1.2 y h) (inst_ok (fun x e y h => slices_ContainsFunc_check_open_1_c n x.1.1 x.1.2 e.1.1.1 e.1.1.2 y h) (SpecOk.none _)))
noncomputable def check_open_Φ (n : Nat) : Orc := with_ Tryd.prog (check_open_σ n) [] n 0 hsL
noncomputable def check_open_v (n : Nat) (s0 : ByteArray) (b1 : Bool) (j2 : Int) (s3 : ByteArray) (s4 : ByteArray) (b5 : Bool) (r6 : Rows) (s7 : ByteArray) (b8 : Bool) (j9 : Int) (s10 : ByteArray) (b11 : Bool) (r12 : Rows) : Option (Bool × Unit) :=
  DM.denFn tm (check_open_Φ n) check_open_lv n Tryd.f63 false [AV.agg [AV.dv (DV.val (Value.string s0)), AV.dv (DV.val (Value.bool b1)), AV.dv (DV.val (Value.int IntKind.i64 j2)), AV.dv (DV.val (Value.string s3)), AV.dv (DV.val (Value.string s4)), AV.sl b5 kdT r6 Right.no, AV.dv (DV.val (Value.string s7)), AV.dv (DV.val (Value.bool b8)), AV.dv (DV.val (Value.int IntKind.i64 j9)), AV.dv (DV.val (Value.string s10)), AV.sl b11 kdL r12 Right.no]] [] (OSh.chk (OSh.plain (.b) []))
theorem check_open_e (n : Nat) (s0 : ByteArray) (b1 : Bool) (j2 : Int) (s3 : ByteArray) (s4 : ByteArray) (b5 : Bool) (r6 : Rows) (s7 : ByteArray) (b8 : Bool) (j9 : Int) (s10 : ByteArray) (b11 : Bool) (r12 : Rows) : check_open_v n s0 b1 j2 s3 s4 b5 r6 s7 b8 j9 s10 b11 r12 =
  obind (check_Vars_v n s0 b1 j2 s3 s4 b5 r6 s7 b8 j9 s10 b11 r12) fun y13 =>
  if (List.length [[DV.val (Value.string s7), DV.val (Value.bool b8), DV.val (Value.int IntKind.i64 j9), DV.val (Value.string s10)]] + List.length r6) * 48 ≤ 140737488355328 then
    bif List.isEmpty [[DV.val (Value.string s7), DV.val (Value.bool b8), DV.val (Value.int IntKind.i64 j9), DV.val (Value.string s10)]] || !List.isEmpty r6 then
      obind (slices_ContainsFunc_check_open_1_v n (false && List.isEmpty r6) (appX [[DV.val (Value.string s7), DV.val (Value.bool b8), DV.val (Value.int IntKind.i64 j9), DV.val (Value.string s10)]] r6) y13.fst.fst y13.fst.snd) fun y14 =>
      some (y14.fst, ())
    else obind (slices_ContainsFunc_check_open_1_v n (false && List.isEmpty r6) (appX [[DV.val (Value.string s7), DV.val (Value.bool b8), DV.val (Value.int IntKind.i64 j9), DV.val (Value.string s10)]] r6) y13.fst.fst y13.fst.snd) fun y15 =>
    some (y15.fst, ())
  else none := by kernel_rfl
theorem check_open_c (n : Nat) (s0 : ByteArray) (b1 : Bool) (j2 : Int) (s3 : ByteArray) (s4 : ByteArray) (b5 : Bool) (r6 : Rows) (s7 : ByteArray) (b8 : Bool) (j9 : Int) (s10 : ByteArray) (b11 : Bool) (r12 : Rows) (y : Bool × Unit) (h : check_open_v n s0 b1 j2 s3 s4 b5 r6 s7 b8 j9 s10 b11 r12 = some y) : Contract Tryd.prog 63 [AV.agg [AV.dv (DV.val (Value.string s0)), AV.dv (DV.val (Value.bool b1)), AV.dv (DV.val (Value.int IntKind.i64 j2)), AV.dv (DV.val (Value.string s3)), AV.dv (DV.val (Value.string s4)), AV.sl b5 kdT r6 Right.no, AV.dv (DV.val (Value.string s7)), AV.dv (DV.val (Value.bool b8)), AV.dv (DV.val (Value.int IntKind.i64 j9)), AV.dv (DV.val (Value.string s10)), AV.sl b11 kdL r12 Right.no]] [] (OSh.enc (OSh.plain (.b) []) y) :=
  ac (OSh.plain (.b) []) (check_open_σok n) Tryd.func63 (by decide) h
def check_Program_lv : Live := [(5, [5, 17, 18, 19], [16, 1000, 1001, 1002, 1003])]
noncomputable def check_Program_σ (n : Nat) : Spec := (inst 16 [.agg [.s, .b, .i IntKind.i64, .s, .s, .sl kdT, .s, .b, .i IntKind.i64, .s, .sl kdL]] [] (OSh.plain (.tup [.s, .i IntKind.i64]) []) (fun x e => show_Rule_v n x.1.1 x.1.2.1 x.1.2.2.1 x.1.2.2.2.1 x.1.2.2.2.2.1 x.1.2.2.2.2.2.1.1 x.1.2.2.2.2.2.1.2 x.1.2.2.2.2.2.2.1 x.1.2.2.2.2.2.2.2.1 x.1.2.2.2.2.2.2.2.2.1 x.1.2.2.2.2.2.2.2.2.2.1 x.1.2.2.2.2.2.2.2.2.2.2.1.1 x.1.2.2.2.2.2.2.2.2.2.2.1.2) (inst 60 [.agg [.s, .b, .i IntKind.i64, .s, .s, .sl kdT, .s, .b, .i IntKind.i64, .s, .sl kdL]] [] (OSh.plain (.i IntKind.i64) []) (fun x e => check_place_v n x.1.1 x.1.2.1 x.1.2.2.1 x.1.2.2.2.1 x.1.2.2.2.2.1 x.1.2.2.2.2.2.1.1 x.1.2.2.2.2.2.1.2 x.1.2.2.2.2.2.2.1 x.1.2.2.2.2.2.2.2.1 x.1.2.2.2.2.2.2.2.2.1 x.1.2.2.2.2.2.2.2.2.2.1 x.1.2.2.2.2.2.2.2.2.2.2.1.1 x.1.2.2.2.2.2.2.2.2.2.2.1.2) (inst 61 [.agg [.s, .b, .i IntKind.i64, .s, .s, .sl kdT, .s, .b, .i IntKind.i64, .s, .sl kdL], .pl 1000 1000000000] [[.nilf, .arr [Kd.s, Kd.i IntKind.i64]]] (OSh.plain (.i IntKind.i64) [[.nilf, .arr [Kd.s, Kd.i IntKind.i64]]]) (fun x e => check_arity_nilf_v n x.1.1 x.1.2.1 x.1.2.2.1 x.1.2.2.2.1 x.1.2.2.2.2.1 x.1.2.2.2.2.2.1.1 x.1.2.2.2.2.2.1.2 x.1.2.2.2.2.2.2.1 x.1.2.2.2.2.2.2.2.1 x.1.2.2.2.2.2.2.2.2.1 x.1.2.2.2.2.2.2.2.2.2.1 x.1.2.2.2.2.2.2.2.2.2.2.1.1 x.1.2.2.2.2.2.2.2.2.2.2.1.2 e.1.2.1) (inst 62 [.agg [.s, .b, .i IntKind.i64, .s, .s, .sl kdT, .s, .b, .i IntKind.i64, .s, .sl kdL]] [] (OSh.plain (.i IntKind.i64) []) (fun x e => check_free_v n x.1.1 x.1.2.1 x.1.2.2.1 x.1.2.2.2.1 x.1.2.2.2.2.1 x.1.2.2.2.2.2.1.1 x.1.2.2.2.2.2.1.2 x.1.2.2.2.2.2.2.1 x.1.2.2.2.2.2.2.2.1 x.1.2.2.2.2.2.2.2.2.1 x.1.2.2.2.2.2.2.2.2.2.1 x.1.2.2.2.2.2.2.2.2.2.2.1.1 x.1.2.2.2.2.2.2.2.2.2.2.1.2) (inst 63 [.agg [.s, .b, .i IntKind.i64, .s, .s, .sl kdT, .s, .b, .i IntKind.i64, .s, .sl kdL]] [] (OSh.plain (.b) []) (fun x e => check_open_v n x.1.1 x.1.2.1 x.1.2.2.1 x.1.2.2.2.1 x.1.2.2.2.2.1 x.1.2.2.2.2.2.1.1 x.1.2.2.2.2.2.1.2 x.1.2.2.2.2.2.2.1 x.1.2.2.2.2.2.2.2.1 x.1.2.2.2.2.2.2.2.2.1 x.1.2.2.2.2.2.2.2.2.2.1 x.1.2.2.2.2.2.2.2.2.2.2.1.1 x.1.2.2.2.2.2.2.2.2.2.2.1.2) Spec.none)))))
theorem check_Program_σok (n : Nat) : SpecOk Tryd.prog (check_Program_σ n) := (inst_ok (fun x e y h => show_Rule_c n x.1.1 x.1.2.1 x.1.2.2.1 x.1.2.2.2.1 x.1.2.2.2.2.1 x.1.2.2.2.2.2.1.1 x.1.2.2.2.2.2.1.2 x.1.2.2.2.2.2.2.1 x.1.2.2.2.2.2.2.2.1 x.1.2.2.2.2.2.2.2.2.1 x.1.2.2.2.2.2.2.2.2.2.1 x.1.2.2.2.2.2.2.2.2.2.2.1.1 x.1.2.2.2.2.2.2.2.2.2.2.1.2 y h) (inst_ok (fun x e y h => check_place_c n x.1.1 x.1.2.1 x.1.2.2.1 x.1.2.2.2.1 x.1.2.2.2.2.1 x.1.2.2.2.2.2.1.1 x.1.2.2.2.2.2.1.2 x.1.2.2.2.2.2.2.1 x.1.2.2.2.2.2.2.2.1 x.1.2.2.2.2.2.2.2.2.1 x.1.2.2.2.2.2.2.2.2.2.1 x.1.2.2.2.2.2.2.2.2.2.2.1.1 x.1.2.2.2.2.2.2.2.2.2.2.1.2 y h) (inst_ok (fun x e y h => check_arity_nilf_c n x.1.1 x.1.2.1 x.1.2.2.1 x.1.2.2.2.1 x.1.2.2.2.2.1 x.1.2.2.2.2.2.1.1 x.1.2.2.2.2.2.1.2 x.1.2.2.2.2.2.2.1 x.1.2.2.2.2.2.2.2.1 x.1.2.2.2.2.2.2.2.2.1 x.1.2.2.2.2.2.2.2.2.2.1 x.1.2.2.2.2.2.2.2.2.2.2.1.1 x.1.2.2.2.2.2.2.2.2.2.2.1.2 e.1.2.1 y h) (inst_ok (fun x e y h => check_free_c n x.1.1 x.1.2.1 x.1.2.2.1 x.1.2.2.2.1 x.1.2.2.2.2.1 x.1.2.2.2.2.2.1.1 x.1.2.2.2.2.2.1.2 x.1.2.2.2.2.2.2.1 x.1.2.2.2.2.2.2.2.1 x.1.2.2.2.2.2.2.2.2.1 x.1.2.2.2.2.2.2.2.2.2.1 x.1.2.2.2.2.2.2.2.2.2.2.1.1 x.1.2.2.2.2.2.2.2.2.2.2.1.2 y h) (inst_ok (fun x e y h => check_open_c n x.1.1 x.1.2.1 x.1.2.2.1 x.1.2.2.2.1 x.1.2.2.2.2.1 x.1.2.2.2.2.2.1.1 x.1.2.2.2.2.2.1.2 x.1.2.2.2.2.2.2.1 x.1.2.2.2.2.2.2.2.1 x.1.2.2.2.2.2.2.2.2.1 x.1.2.2.2.2.2.2.2.2.2.1 x.1.2.2.2.2.2.2.2.2.2.2.1.1 x.1.2.2.2.2.2.2.2.2.2.2.1.2 y h) (SpecOk.none _))))))
noncomputable def check_Program_Φ (n : Nat) : Orc := with_ Tryd.prog (check_Program_σ n) [] n 0 hsL
noncomputable def check_Program_v (n : Nat) (b0 : Bool) (r1 : Rows) : Option ((Int × Int × Int × Unit) × Unit) :=
  DM.denFn tm (check_Program_Φ n) check_Program_lv n Tryd.f31 false [AV.sl b0 kdR r1 Right.no] [] (OSh.chk (OSh.plain (.tup [.i IntKind.i64, .i IntKind.i64, .i IntKind.i64]) []))
noncomputable def check_Program_l5 (n : Nat) (b0 : Bool) (r1 : Rows) (i0 : Nat) (j7 : Int) (r8 : List (List DV)) : Option ((Int × Int × Int × Unit) × Unit) :=
  DM.loopFn tm (check_Program_Φ n) check_Program_lv n Tryd.f31 false [] (OSh.chk (OSh.plain (.tup [.i IntKind.i64, .i IntKind.i64, .i IntKind.i64]) [])) 5 [] i0 (St.mk [Jk, Jk, Jk, Jk, Jk, AV.pl 16 1000000000, Jk, Jk, Jk, Jk, Jk, Jk, Jk, Jk, Jk, Jk, Jk, AV.sl b0 kdR r1 Right.no, AV.dv (DV.val (Value.int IntKind.i64 (↑(List.length r1) : Int))), AV.dv (DV.val (Value.int IntKind.i64 j7)), Jk, Jk, Jk, Jk, Jk, Jk, Jk, Jk, Jk, Jk, Jk, Jk, Jk, Jk, Jk, Jk, Jk, Jk, Jk, Jk, Jk, Jk, Jk, Jk, Jk, Jk, Jk, Jk, Jk, Jk, Jk, Jk, Jk, Jk, Jk] [(16, [AV.dv (DV.val Value.nilFunc), AV.arr [Kd.s, Kd.i IntKind.i64] r8])])
theorem check_Program_s5 (n : Nat) (b0 : Bool) (r1 : Rows) (i0 : Nat) (j7 : Int) (r8 : List (List DV)) : check_Program_l5 n b0 r1 (i0 + 1) j7 r8 =
  bif decide (j7 < (↑(List.length r1) : Int)) then
    if 0 ≤ j7 then
      if j7 < (↑(List.length r1) : Int) then
        obind (show_Rule_v n (Row.S (List.getD r1 (Int.toNat j7) []) 0) (Row.B (List.getD r1 (Int.toNat j7) []) 1) (Row.I (List.getD r1 (Int.toNat j7) []) 2) (Row.S (List.getD r1 (Int.toNat j7) []) 3) (Row.S (List.getD r1 (Int.toNat j7) []) 4) (Row.N (List.getD r1 (Int.toNat j7) []) 5) (Row.R (List.getD r1 (Int.toNat j7) []) 5) (Row.S (List.getD r1 (Int.toNat j7) []) 6) (Row.B (List.getD r1 (Int.toNat j7) []) 7) (Row.I (List.getD r1 (Int.toNat j7) []) 8) (Row.S (List.getD r1 (Int.toNat j7) []) 9) (Row.N (List.getD r1 (Int.toNat j7) []) 10) (Row.R (List.getD r1 (Int.toNat j7) []) 10)) fun y9 =>
        bif y9.fst.snd.fst != 0 then
          some ((100, (j7, (-1, ()))), ())
        else obind (check_place_v n (Row.S (List.getD r1 (Int.toNat j7) []) 0) (Row.B (List.getD r1 (Int.toNat j7) []) 1) (Row.I (List.getD r1 (Int.toNat j7) []) 2) (Row.S (List.getD r1 (Int.toNat j7) []) 3) (Row.S (List.getD r1 (Int.toNat j7) []) 4) (Row.N (List.getD r1 (Int.toNat j7) []) 5) (Row.R (List.getD r1 (Int.toNat j7) []) 5) (Row.S (List.getD r1 (Int.toNat j7) []) 6) (Row.B (List.getD r1 (Int.toNat j7) []) 7) (Row.I (List.getD r1 (Int.toNat j7) []) 8) (Row.S (List.getD r1 (Int.toNat j7) []) 9) (Row.N (List.getD r1 (Int.toNat j7) []) 10) (Row.R (List.getD r1 (Int.toNat j7) []) 10)) fun y10 =>
        bif decide (y10.fst > -2) then
          some ((101, (j7, (y10.fst, ()))), ())
        else obind (check_arity_nilf_v n (Row.S (List.getD r1 (Int.toNat j7) []) 0) (Row.B (List.getD r1 (Int.toNat j7) []) 1) (Row.I (List.getD r1 (Int.toNat j7) []) 2) (Row.S (List.getD r1 (Int.toNat j7) []) 3) (Row.S (List.getD r1 (Int.toNat j7) []) 4) (Row.N (List.getD r1 (Int.toNat j7) []) 5) (Row.R (List.getD r1 (Int.toNat j7) []) 5) (Row.S (List.getD r1 (Int.toNat j7) []) 6) (Row.B (List.getD r1 (Int.toNat j7) []) 7) (Row.I (List.getD r1 (Int.toNat j7) []) 8) (Row.S (List.getD r1 (Int.toNat j7) []) 9) (Row.N (List.getD r1 (Int.toNat j7) []) 10) (Row.R (List.getD r1 (Int.toNat j7) []) 10) r8) fun y11 =>
        bif decide (y11.fst > -2) then
          some ((102, (j7, (y11.fst, ()))), ())
        else obind (check_free_v n (Row.S (List.getD r1 (Int.toNat j7) []) 0) (Row.B (List.getD r1 (Int.toNat j7) []) 1) (Row.I (List.getD r1 (Int.toNat j7) []) 2) (Row.S (List.getD r1 (Int.toNat j7) []) 3) (Row.S (List.getD r1 (Int.toNat j7) []) 4) (Row.N (List.getD r1 (Int.toNat j7) []) 5) (Row.R (List.getD r1 (Int.toNat j7) []) 5) (Row.S (List.getD r1 (Int.toNat j7) []) 6) (Row.B (List.getD r1 (Int.toNat j7) []) 7) (Row.I (List.getD r1 (Int.toNat j7) []) 8) (Row.S (List.getD r1 (Int.toNat j7) []) 9) (Row.N (List.getD r1 (Int.toNat j7) []) 10) (Row.R (List.getD r1 (Int.toNat j7) []) 10)) fun y12 =>
        bif decide (y12.fst > -2) then
          some ((103, (j7, (y12.fst, ()))), ())
        else obind (check_open_v n (Row.S (List.getD r1 (Int.toNat j7) []) 0) (Row.B (List.getD r1 (Int.toNat j7) []) 1) (Row.I (List.getD r1 (Int.toNat j7) []) 2) (Row.S (List.getD r1 (Int.toNat j7) []) 3) (Row.S (List.getD r1 (Int.toNat j7) []) 4) (Row.N (List.getD r1 (Int.toNat j7) []) 5) (Row.R (List.getD r1 (Int.toNat j7) []) 5) (Row.S (List.getD r1 (Int.toNat j7) []) 6) (Row.B (List.getD r1 (Int.toNat j7) []) 7) (Row.I (List.getD r1 (Int.toNat j7) []) 8) (Row.S (List.getD r1 (Int.toNat j7) []) 9) (Row.N (List.getD r1 (Int.toNat j7) []) 10) (Row.R (List.getD r1 (Int.toNat j7) []) 10)) fun y13 =>
        bif y13.fst then
          some ((104, (j7, (-1, ()))), ())
        else check_Program_l5 n b0 r1 i0 (IntKind.wrap IntKind.i64 (j7 + 1)) y11.snd.fst.snd.fst
      else none
    else none
  else some ((0, (-1, (-1, ()))), ()) := by kernel_rfl
theorem check_Program_e (n : Nat) (b0 : Bool) (r1 : Rows) : check_Program_v n b0 r1 =
  bif decide ((↑(List.length r1) : Int) > 16) then
    some ((81, (-1, (-1, ()))), ())
  else check_Program_l5 n b0 r1 n 0 [] := by kernel_rfl
theorem check_Program_c (n : Nat) (b0 : Bool) (r1 : Rows) (y : (Int × Int × Int × Unit) × Unit) (h : check_Program_v n b0 r1 = some y) : Contract Tryd.prog 31 [AV.sl b0 kdR r1 Right.no] [] (OSh.enc (OSh.plain (.tup [.i IntKind.i64, .i IntKind.i64, .i IntKind.i64]) []) y) :=
  ac (OSh.plain (.tup [.i IntKind.i64, .i IntKind.i64, .i IntKind.i64]) []) (check_Program_σok n) Tryd.func31 (by decide) h
def law10_ask_lv : Live := []
noncomputable def law10_ask_σ (n : Nat) : Spec := (inst 24 [.s] [] (OSh.plain (.tup [.sl kdR, .i IntKind.i64, .i IntKind.i64]) []) (fun x e => parse_Program_v n x.1) (inst 31 [.sl kdR] [] (OSh.plain (.tup [.i IntKind.i64, .i IntKind.i64, .i IntKind.i64]) []) (fun x e => check_Program_v n x.1.1 x.1.2) Spec.none))
theorem law10_ask_σok (n : Nat) : SpecOk Tryd.prog (law10_ask_σ n) := (inst_ok (fun x e y h => parse_Program_c n x.1 y h) (inst_ok (fun x e y h => check_Program_c n x.1.1 x.1.2 y h) (SpecOk.none _)))
noncomputable def law10_ask_Φ (n : Nat) : Orc := with_ Tryd.prog (law10_ask_σ n) [] n 0 hsL
noncomputable def law10_ask_v (n : Nat) (s0 : ByteArray) : Option ((Int × Int × Int × Unit) × Unit) :=
  DM.denFn tm (law10_ask_Φ n) law10_ask_lv n Tryd.f55 false [AV.dv (DV.val (Value.string s0))] [] (OSh.chk (OSh.plain (.tup [.i IntKind.i64, .i IntKind.i64, .i IntKind.i64]) []))
theorem law10_ask_e (n : Nat) (s0 : ByteArray) : law10_ask_v n s0 =
  obind (parse_Program_v n s0) fun y1 =>
  obind (check_Program_v n y1.fst.fst.fst y1.fst.fst.snd) fun y2 =>
  some ((y2.fst.fst, (y2.fst.snd.fst, (y2.fst.snd.snd.fst, ()))), ()) := by kernel_rfl
theorem law10_ask_c (n : Nat) (s0 : ByteArray) (y : (Int × Int × Int × Unit) × Unit) (h : law10_ask_v n s0 = some y) : Contract Tryd.prog 55 [AV.dv (DV.val (Value.string s0))] [] (OSh.enc (OSh.plain (.tup [.i IntKind.i64, .i IntKind.i64, .i IntKind.i64]) []) y) :=
  ac (OSh.plain (.tup [.i IntKind.i64, .i IntKind.i64, .i IntKind.i64]) []) (law10_ask_σok n) Tryd.func55 (by decide) h
def law10_live_lv : Live := []
noncomputable def law10_live_σ (n : Nat) : Spec := (inst 55 [.s] [] (OSh.plain (.tup [.i IntKind.i64, .i IntKind.i64, .i IntKind.i64]) []) (fun x e => law10_ask_v n x.1) Spec.none)
theorem law10_live_σok (n : Nat) : SpecOk Tryd.prog (law10_live_σ n) := (inst_ok (fun x e y h => law10_ask_c n x.1 y h) (SpecOk.none _))
noncomputable def law10_live_Φ (n : Nat) : Orc := with_ Tryd.prog (law10_live_σ n) [] n 0 hsL
noncomputable def law10_live_v (n : Nat) : Option (Bool × Unit) :=
  DM.denFn tm (law10_live_Φ n) law10_live_lv n Tryd.f25 false [] [] (OSh.chk (OSh.plain (.b) []))
theorem law10_live_e (n : Nat) : law10_live_v n =
  obind (law10_ask_v n (ByteArray.mk #[65, 58, 32, 112, 40, 88, 41, 32, 58, 45, 32, 113, 40, 89, 41, 46])) fun y0 =>
  obind (law10_ask_v n (ByteArray.mk #[65, 58, 32, 112, 40, 41, 32, 58, 45, 32, 113, 40, 88, 41, 32, 97, 116, 32, 88, 46])) fun y1 =>
  obind (law10_ask_v n (ByteArray.mk #[65, 58, 32, 112, 40, 41, 32, 58, 45, 32, 114, 40, 88, 41, 44, 32, 113, 40, 88, 41, 32, 97, 116, 32, 88, 46])) fun y2 =>
  bif y0.fst.fst == 104 then
    bif y0.fst.snd.fst == 0 then
      bif y0.fst.snd.snd.fst == -1 then
        bif y1.fst.fst == 103 then
          bif y1.fst.snd.fst == 0 then
            bif y1.fst.snd.snd.fst == 0 then
              some (y2.fst.fst == 0, ())
            else some (false, ())
          else some (false, ())
        else some (false, ())
      else some (false, ())
    else some (false, ())
  else some (false, ()) := by kernel_rfl
theorem law10_live_c (n : Nat) (y : Bool × Unit) (h : law10_live_v n = some y) : Contract Tryd.prog 25 [] [] (OSh.enc (OSh.plain (.b) []) y) :=
  ac (OSh.plain (.b) []) (law10_live_σok n) Tryd.func25 (by decide) h
def ref10_Has_lv : Live := [(2, [0, 1, 5], [1000, 1001, 1002, 1003])]
noncomputable def ref10_Has_σ (n : Nat) : Spec := Spec.none
theorem ref10_Has_σok (n : Nat) : SpecOk Tryd.prog (ref10_Has_σ n) := (SpecOk.none _)
noncomputable def ref10_Has_Φ (n : Nat) : Orc := with_ Tryd.prog (ref10_Has_σ n) [] n 0 hsL
noncomputable def ref10_Has_v (n : Nat) (b0 : Bool) (r1 : Rows) (s2 : ByteArray) : Option (Bool × Unit) :=
  DM.denFn tm (ref10_Has_Φ n) ref10_Has_lv n Tryd.f32 false [AV.sl b0 [Kd.s] r1 Right.no, AV.dv (DV.val (Value.string s2))] [] (OSh.chk (OSh.plain (.b) []))
noncomputable def ref10_Has_l2 (n : Nat) (b0 : Bool) (r1 : Rows) (s2 : ByteArray) (i0 : Nat) (j3 : Int) : Option (Bool × Unit) :=
  DM.loopFn tm (ref10_Has_Φ n) ref10_Has_lv n Tryd.f32 false [] (OSh.chk (OSh.plain (.b) [])) 2 [] i0 (St.mk [AV.sl b0 [Kd.s] r1 Right.no, AV.dv (DV.val (Value.string s2)), Jk, Jk, Jk, AV.dv (DV.val (Value.int IntKind.i64 j3)), Jk, Jk, Jk, Jk, Jk, Jk, Jk, Jk, Jk, Jk, Jk, Jk] [])
theorem ref10_Has_s2 (n : Nat) (b0 : Bool) (r1 : Rows) (s2 : ByteArray) (i0 : Nat) (j3 : Int) : ref10_Has_l2 n b0 r1 s2 (i0 + 1) j3 =
  bif decide (j3 < (↑(List.length r1) : Int)) then
    if 0 ≤ j3 then
      if j3 < (↑(List.length r1) : Int) then
        bif Row.S (List.getD r1 (Int.toNat j3) []) 0 == s2 then
          some (true, ())
        else ref10_Has_l2 n b0 r1 s2 i0 (IntKind.wrap IntKind.i64 (j3 + 1))
      else none
    else none
  else some (false, ()) := by kernel_rfl
theorem ref10_Has_e (n : Nat) (b0 : Bool) (r1 : Rows) (s2 : ByteArray) : ref10_Has_v n b0 r1 s2 =
  ref10_Has_l2 n b0 r1 s2 n 0 := by kernel_rfl
theorem ref10_Has_c (n : Nat) (b0 : Bool) (r1 : Rows) (s2 : ByteArray) (y : Bool × Unit) (h : ref10_Has_v n b0 r1 s2 = some y) : Contract Tryd.prog 32 [AV.sl b0 [Kd.s] r1 Right.no, AV.dv (DV.val (Value.string s2))] [] (OSh.enc (OSh.plain (.b) []) y) :=
  ac (OSh.plain (.b) []) (ref10_Has_σok n) Tryd.func32 (by decide) h
def ref10_with_lv : Live := []
noncomputable def ref10_with_σ (n : Nat) : Spec := (inst 32 [.sl [Kd.s], .s] [] (OSh.plain (.b) []) (fun x e => ref10_Has_v n x.1.1 x.1.2 x.2.1) Spec.none)
theorem ref10_with_σok (n : Nat) : SpecOk Tryd.prog (ref10_with_σ n) := (inst_ok (fun x e y h => ref10_Has_c n x.1.1 x.1.2 x.2.1 y h) (SpecOk.none _))
noncomputable def ref10_with_Φ (n : Nat) : Orc := with_ Tryd.prog (ref10_with_σ n) [] n 0 hsL
noncomputable def ref10_with_v (n : Nat) (b0 : Bool) (r1 : Rows) (s2 : ByteArray) (b3 : Bool) (j4 : Int) (s5 : ByteArray) : Option ((Bool × Rows) × Unit) :=
  DM.denFn tm (ref10_with_Φ n) ref10_with_lv n Tryd.f59 true [AV.sl b0 [Kd.s] r1 (Right.tok 500000), AV.agg [AV.dv (DV.val (Value.string s2)), AV.dv (DV.val (Value.bool b3)), AV.dv (DV.val (Value.int IntKind.i64 j4)), AV.dv (DV.val (Value.string s5))]] [] (OSh.chk (OSh.plain (.slt [Kd.s] 0) []))
theorem ref10_with_e (n : Nat) (b0 : Bool) (r1 : Rows) (s2 : ByteArray) (b3 : Bool) (j4 : Int) (s5 : ByteArray) : ref10_with_v n b0 r1 s2 b3 j4 s5 =
  bif s2 == ByteArray.mk #[] then
    some ((b0, r1), ())
  else obind (ref10_Has_v n b0 r1 s2) fun y6 =>
  bif y6.fst then
    some ((b0, r1), ())
  else if (List.length r1 + List.length [[DV.val (Value.string s2)]]) * 16 ≤ 140737488355328 then
    some ((b0 && List.isEmpty [[DV.val (Value.string s2)]], appX r1 [[DV.val (Value.string s2)]]), ())
  else none := by kernel_rfl
theorem ref10_with_c (n : Nat) (b0 : Bool) (r1 : Rows) (s2 : ByteArray) (b3 : Bool) (j4 : Int) (s5 : ByteArray) (y : (Bool × Rows) × Unit) (h : ref10_with_v n b0 r1 s2 b3 j4 s5 = some y) : Contract Tryd.prog 59 [AV.sl b0 [Kd.s] r1 (Right.tok 500000), AV.agg [AV.dv (DV.val (Value.string s2)), AV.dv (DV.val (Value.bool b3)), AV.dv (DV.val (Value.int IntKind.i64 j4)), AV.dv (DV.val (Value.string s5))]] [] (OSh.enc (OSh.plain (.slt [Kd.s] 0) []) y) :=
  ac (OSh.plain (.slt [Kd.s] 0) []) (ref10_with_σok n) Tryd.func59 (by decide) h
def ref10_Bound_lv : Live := [(3, [1, 2, 5, 6], [2, 1000, 1001, 1002, 1003]), (7, [1, 2, 5, 6, 7], [2, 1000, 1001, 1002, 1003])]
noncomputable def ref10_Bound_σ (n : Nat) : Spec := (inst 59 [.slt [Kd.s] 500000, .agg [.s, .b, .i IntKind.i64, .s]] [] (OSh.plain (.slt [Kd.s] 0) []) (fun x e => ref10_with_v n x.1.1 x.1.2 x.2.1.1 x.2.1.2.1 x.2.1.2.2.1 x.2.1.2.2.2.1) Spec.none)
theorem ref10_Bound_σok (n : Nat) : SpecOk Tryd.prog (ref10_Bound_σ n) := (inst_ok (fun x e y h => ref10_with_c n x.1.1 x.1.2 x.2.1.1 x.2.1.2.1 x.2.1.2.2.1 x.2.1.2.2.2.1 y h) (SpecOk.none _))
noncomputable def ref10_Bound_Φ (n : Nat) : Orc := with_ Tryd.prog (ref10_Bound_σ n) [] n 0 hsL
noncomputable def ref10_Bound_v (n : Nat) (s0 : ByteArray) (b1 : Bool) (j2 : Int) (s3 : ByteArray) (s4 : ByteArray) (b5 : Bool) (r6 : Rows) (s7 : ByteArray) (b8 : Bool) (j9 : Int) (s10 : ByteArray) (b11 : Bool) (r12 : Rows) (j13 : Int) : Option ((Bool × Rows) × Unit) :=
  DM.denFn tm (ref10_Bound_Φ n) ref10_Bound_lv n Tryd.f30 true [AV.agg [AV.dv (DV.val (Value.string s0)), AV.dv (DV.val (Value.bool b1)), AV.dv (DV.val (Value.int IntKind.i64 j2)), AV.dv (DV.val (Value.string s3)), AV.dv (DV.val (Value.string s4)), AV.sl b5 kdT r6 Right.no, AV.dv (DV.val (Value.string s7)), AV.dv (DV.val (Value.bool b8)), AV.dv (DV.val (Value.int IntKind.i64 j9)), AV.dv (DV.val (Value.string s10)), AV.sl b11 kdL r12 Right.no], AV.dv (DV.val (Value.int IntKind.i64 j13))] [] (OSh.chk (OSh.plain (.slt [Kd.s] 0) []))
noncomputable def ref10_Bound_l3 (n : Nat) (s0 : ByteArray) (b1 : Bool) (j2 : Int) (s3 : ByteArray) (s4 : ByteArray) (b5 : Bool) (r6 : Rows) (s7 : ByteArray) (b8 : Bool) (j9 : Int) (s10 : ByteArray) (b11 : Bool) (r12 : Rows) (j13 : Int) (i0 : Nat) (b15 : Bool) (r16 : List (List DV)) (j23 : Int) : Option ((Bool × Rows) × Unit) :=
  DM.loopFn tm (ref10_Bound_Φ n) ref10_Bound_lv n Tryd.f30 true [] (OSh.chk (OSh.plain (.slt [Kd.s] 0) [])) 3 [] i0 (St.mk [Jk, AV.dv (DV.val (Value.int IntKind.i64 j13)), AV.pl 2 0, Jk, Jk, AV.sl b15 [Kd.s] r16 (Right.tok 5), AV.dv (DV.val (Value.int IntKind.i64 j23)), Jk, Jk, Jk, Jk, Jk, Jk, Jk, Jk, Jk, Jk, Jk, Jk, Jk, Jk, Jk, Jk, Jk, Jk, Jk, Jk, Jk, Jk, Jk, Jk, Jk, Jk, Jk, Jk, Jk, Jk, Jk, Jk, Jk, Jk, Jk, Jk, Jk, Jk, Jk, Jk, Jk, Jk, Jk, Jk, Jk, Jk, Jk, Jk, Jk, Jk, Jk, Jk, Jk, Jk, Jk] [(2, [AV.dv (DV.val (Value.string s0)), AV.dv (DV.val (Value.bool b1)), AV.dv (DV.val (Value.int IntKind.i64 j2)), AV.dv (DV.val (Value.string s3)), AV.dv (DV.val (Value.string s4)), AV.sl b5 kdT r6 Right.no, AV.dv (DV.val (Value.string s7)), AV.dv (DV.val (Value.bool b8)), AV.dv (DV.val (Value.int IntKind.i64 j9)), AV.dv (DV.val (Value.string s10)), AV.sl b11 kdL r12 Right.no])])
noncomputable def ref10_Bound_l7 (n : Nat) (s0 : ByteArray) (b1 : Bool) (j2 : Int) (s3 : ByteArray) (s4 : ByteArray) (b5 : Bool) (r6 : Rows) (s7 : ByteArray) (b8 : Bool) (j9 : Int) (s10 : ByteArray) (b11 : Bool) (r12 : Rows) (j13 : Int) (i0 i1 : Nat) (b18 : Bool) (r19 : List (List DV)) (j22 : Int) (j25 : Int) : Option ((Bool × Rows) × Unit) :=
  DM.loopFn tm (ref10_Bound_Φ n) ref10_Bound_lv n Tryd.f30 true [] (OSh.chk (OSh.plain (.slt [Kd.s] 0) [])) 7 [i0] i1 (St.mk [Jk, AV.dv (DV.val (Value.int IntKind.i64 j13)), AV.pl 2 0, Jk, Jk, AV.sl b18 [Kd.s] r19 (Right.tok 5), AV.dv (DV.val (Value.int IntKind.i64 j25)), AV.dv (DV.val (Value.int IntKind.i64 j22)), Jk, Jk, Jk, Jk, Jk, Jk, Jk, Jk, Jk, Jk, Jk, Jk, Jk, Jk, Jk, Jk, Jk, Jk, Jk, Jk, Jk, Jk, Jk, Jk, Jk, Jk, Jk, Jk, Jk, Jk, Jk, Jk, Jk, Jk, Jk, Jk, Jk, Jk, Jk, Jk, Jk, Jk, Jk, Jk, Jk, Jk, Jk, Jk, Jk, Jk, Jk, Jk, Jk, Jk] [(2, [AV.dv (DV.val (Value.string s0)), AV.dv (DV.val (Value.bool b1)), AV.dv (DV.val (Value.int IntKind.i64 j2)), AV.dv (DV.val (Value.string s3)), AV.dv (DV.val (Value.string s4)), AV.sl b5 kdT r6 Right.no, AV.dv (DV.val (Value.string s7)), AV.dv (DV.val (Value.bool b8)), AV.dv (DV.val (Value.int IntKind.i64 j9)), AV.dv (DV.val (Value.string s10)), AV.sl b11 kdL r12 Right.no])])
theorem ref10_Bound_s3 (n : Nat) (s0 : ByteArray) (b1 : Bool) (j2 : Int) (s3 : ByteArray) (s4 : ByteArray) (b5 : Bool) (r6 : Rows) (s7 : ByteArray) (b8 : Bool) (j9 : Int) (s10 : ByteArray) (b11 : Bool) (r12 : Rows) (j13 : Int) (i0 : Nat) (b15 : Bool) (r16 : List (List DV)) (j23 : Int) : ref10_Bound_l3 n s0 b1 j2 s3 s4 b5 r6 s7 b8 j9 s10 b11 r12 j13 (i0 + 1) b15 r16 j23 =
  bif decide (j23 < (↑(List.length r12) : Int)) then
    bif decide (j23 < j13) then
      if 0 ≤ j23 then
        if j23 < (↑(List.length r12) : Int) then
          obind (ref10_with_v n b15 r16 (Row.S (List.getD r12 (Int.toNat j23) []) 0) (Row.B (List.getD r12 (Int.toNat j23) []) 1) (Row.I (List.getD r12 (Int.toNat j23) []) 2) (Row.S (List.getD r12 (Int.toNat j23) []) 3)) fun y24 =>
          ref10_Bound_l7 n s0 b1 j2 s3 s4 b5 r6 s7 b8 j9 s10 b11 r12 j13 i0 n y24.fst.fst y24.fst.snd 0 j23
        else none
      else none
    else some ((b15, r16), ())
  else some ((b15, r16), ()) := by kernel_rfl
theorem ref10_Bound_s7 (n : Nat) (s0 : ByteArray) (b1 : Bool) (j2 : Int) (s3 : ByteArray) (s4 : ByteArray) (b5 : Bool) (r6 : Rows) (s7 : ByteArray) (b8 : Bool) (j9 : Int) (s10 : ByteArray) (b11 : Bool) (r12 : Rows) (j13 : Int) (i0 i1 : Nat) (b18 : Bool) (r19 : List (List DV)) (j22 : Int) (j25 : Int) : ref10_Bound_l7 n s0 b1 j2 s3 s4 b5 r6 s7 b8 j9 s10 b11 r12 j13 i0 (i1 + 1) b18 r19 j22 j25 =
  if 0 ≤ j25 then
    if j25 < (↑(List.length r12) : Int) then
      bif decide (j22 < (↑(List.length (Row.R (List.getD r12 (Int.toNat j25) []) 5)) : Int)) then
        if 0 ≤ j25 then
          if j25 < (↑(List.length r12) : Int) then
            if 0 ≤ j22 then
              if j22 < (↑(List.length (Row.R (List.getD r12 (Int.toNat j25) []) 5)) : Int) then
                obind (ref10_with_v n b18 r19 (Row.S (List.getD (Row.R (List.getD r12 (Int.toNat j25) []) 5) (Int.toNat j22) []) 0) (Row.B (List.getD (Row.R (List.getD r12 (Int.toNat j25) []) 5) (Int.toNat j22) []) 1) (Row.I (List.getD (Row.R (List.getD r12 (Int.toNat j25) []) 5) (Int.toNat j22) []) 2) (Row.S (List.getD (Row.R (List.getD r12 (Int.toNat j25) []) 5) (Int.toNat j22) []) 3)) fun y26 =>
                ref10_Bound_l7 n s0 b1 j2 s3 s4 b5 r6 s7 b8 j9 s10 b11 r12 j13 i0 i1 y26.fst.fst y26.fst.snd (IntKind.wrap IntKind.i64 (j22 + 1)) j25
              else none
            else none
          else none
        else none
      else if 0 ≤ j25 then
        if j25 < (↑(List.length r12) : Int) then
          obind (ref10_with_v n b18 r19 (Row.S (List.getD r12 (Int.toNat j25) []) 6) (Row.B (List.getD r12 (Int.toNat j25) []) 7) (Row.I (List.getD r12 (Int.toNat j25) []) 8) (Row.S (List.getD r12 (Int.toNat j25) []) 9)) fun y27 =>
          ref10_Bound_l3 n s0 b1 j2 s3 s4 b5 r6 s7 b8 j9 s10 b11 r12 j13 i0 y27.fst.fst y27.fst.snd (IntKind.wrap IntKind.i64 (j25 + 1))
        else none
      else none
    else none
  else none := by kernel_rfl
theorem ref10_Bound_e (n : Nat) (s0 : ByteArray) (b1 : Bool) (j2 : Int) (s3 : ByteArray) (s4 : ByteArray) (b5 : Bool) (r6 : Rows) (s7 : ByteArray) (b8 : Bool) (j9 : Int) (s10 : ByteArray) (b11 : Bool) (r12 : Rows) (j13 : Int) : ref10_Bound_v n s0 b1 j2 s3 s4 b5 r6 s7 b8 j9 s10 b11 r12 j13 =
  obind (ref10_with_v n true [] s0 b1 j2 s3) fun y14 =>
  ref10_Bound_l3 n s0 b1 j2 s3 s4 b5 r6 s7 b8 j9 s10 b11 r12 j13 n y14.fst.fst y14.fst.snd 0 := by kernel_rfl
theorem ref10_Bound_c (n : Nat) (s0 : ByteArray) (b1 : Bool) (j2 : Int) (s3 : ByteArray) (s4 : ByteArray) (b5 : Bool) (r6 : Rows) (s7 : ByteArray) (b8 : Bool) (j9 : Int) (s10 : ByteArray) (b11 : Bool) (r12 : Rows) (j13 : Int) (y : (Bool × Rows) × Unit) (h : ref10_Bound_v n s0 b1 j2 s3 s4 b5 r6 s7 b8 j9 s10 b11 r12 j13 = some y) : Contract Tryd.prog 30 [AV.agg [AV.dv (DV.val (Value.string s0)), AV.dv (DV.val (Value.bool b1)), AV.dv (DV.val (Value.int IntKind.i64 j2)), AV.dv (DV.val (Value.string s3)), AV.dv (DV.val (Value.string s4)), AV.sl b5 kdT r6 Right.no, AV.dv (DV.val (Value.string s7)), AV.dv (DV.val (Value.bool b8)), AV.dv (DV.val (Value.int IntKind.i64 j9)), AV.dv (DV.val (Value.string s10)), AV.sl b11 kdL r12 Right.no], AV.dv (DV.val (Value.int IntKind.i64 j13))] [] (OSh.enc (OSh.plain (.slt [Kd.s] 0) []) y) :=
  ac (OSh.plain (.slt [Kd.s] 0) []) (ref10_Bound_σok n) Tryd.func30 (by decide) h
end Go.Den
namespace Go.Den
open Go.Proofs
set_option maxRecDepth 100000
def ref10_Vars_lv : Live := []
noncomputable def ref10_Vars_σ (n : Nat) : Spec := (inst 30 [.agg [.s, .b, .i IntKind.i64, .s, .s, .sl kdT, .s, .b, .i IntKind.i64, .s, .sl kdL], .i IntKind.i64] [] (OSh.plain (.slt [Kd.s] 0) []) (fun x e => ref10_Bound_v n x.1.1 x.1.2.1 x.1.2.2.1 x.1.2.2.2.1 x.1.2.2.2.2.1 x.1.2.2.2.2.2.1.1 x.1.2.2.2.2.2.1.2 x.1.2.2.2.2.2.2.1 x.1.2.2.2.2.2.2.2.1 x.1.2.2.2.2.2.2.2.2.1 x.1.2.2.2.2.2.2.2.2.2.1 x.1.2.2.2.2.2.2.2.2.2.2.1.1 x.1.2.2.2.2.2.2.2.2.2.2.1.2 x.2.1) Spec.none)
theorem ref10_Vars_σok (n : Nat) : SpecOk Tryd.prog (ref10_Vars_σ n) := (inst_ok (fun x e y h => ref10_Bound_c n x.1.1 x.1.2.1 x.1.2.2.1 x.1.2.2.2.1 x.1.2.2.2.2.1 x.1.2.2.2.2.2.1.1 x.1.2.2.2.2.2.1.2 x.1.2.2.2.2.2.2.1 x.1.2.2.2.2.2.2.2.1 x.1.2.2.2.2.2.2.2.2.1 x.1.2.2.2.2.2.2.2.2.2.1 x.1.2.2.2.2.2.2.2.2.2.2.1.1 x.1.2.2.2.2.2.2.2.2.2.2.1.2 x.2.1 y h) (SpecOk.none _))
noncomputable def ref10_Vars_Φ (n : Nat) : Orc := with_ Tryd.prog (ref10_Vars_σ n) [] n 0 hsL
noncomputable def ref10_Vars_v (n : Nat) (s0 : ByteArray) (b1 : Bool) (j2 : Int) (s3 : ByteArray) (s4 : ByteArray) (b5 : Bool) (r6 : Rows) (s7 : ByteArray) (b8 : Bool) (j9 : Int) (s10 : ByteArray) (b11 : Bool) (r12 : Rows) : Option ((Bool × Rows) × Unit) :=
  DM.denFn tm (ref10_Vars_Φ n) ref10_Vars_lv n Tryd.f28 true [AV.agg [AV.dv (DV.val (Value.string s0)), AV.dv (DV.val (Value.bool b1)), AV.dv (DV.val (Value.int IntKind.i64 j2)), AV.dv (DV.val (Value.string s3)), AV.dv (DV.val (Value.string s4)), AV.sl b5 kdT r6 Right.no, AV.dv (DV.val (Value.string s7)), AV.dv (DV.val (Value.bool b8)), AV.dv (DV.val (Value.int IntKind.i64 j9)), AV.dv (DV.val (Value.string s10)), AV.sl b11 kdL r12 Right.no]] [] (OSh.chk (OSh.plain (.slt [Kd.s] 0) []))
theorem ref10_Vars_e (n : Nat) (s0 : ByteArray) (b1 : Bool) (j2 : Int) (s3 : ByteArray) (s4 : ByteArray) (b5 : Bool) (r6 : Rows) (s7 : ByteArray) (b8 : Bool) (j9 : Int) (s10 : ByteArray) (b11 : Bool) (r12 : Rows) : ref10_Vars_v n s0 b1 j2 s3 s4 b5 r6 s7 b8 j9 s10 b11 r12 =
  obind (ref10_Bound_v n s0 b1 j2 s3 s4 b5 r6 s7 b8 j9 s10 b11 r12 ((↑(List.length r12) : Int))) fun y13 =>
  some ((y13.fst.fst, y13.fst.snd), ()) := by kernel_rfl
theorem ref10_Vars_c (n : Nat) (s0 : ByteArray) (b1 : Bool) (j2 : Int) (s3 : ByteArray) (s4 : ByteArray) (b5 : Bool) (r6 : Rows) (s7 : ByteArray) (b8 : Bool) (j9 : Int) (s10 : ByteArray) (b11 : Bool) (r12 : Rows) (y : (Bool × Rows) × Unit) (h : ref10_Vars_v n s0 b1 j2 s3 s4 b5 r6 s7 b8 j9 s10 b11 r12 = some y) : Contract Tryd.prog 28 [AV.agg [AV.dv (DV.val (Value.string s0)), AV.dv (DV.val (Value.bool b1)), AV.dv (DV.val (Value.int IntKind.i64 j2)), AV.dv (DV.val (Value.string s3)), AV.dv (DV.val (Value.string s4)), AV.sl b5 kdT r6 Right.no, AV.dv (DV.val (Value.string s7)), AV.dv (DV.val (Value.bool b8)), AV.dv (DV.val (Value.int IntKind.i64 j9)), AV.dv (DV.val (Value.string s10)), AV.sl b11 kdL r12 Right.no]] [] (OSh.enc (OSh.plain (.slt [Kd.s] 0) []) y) :=
  ac (OSh.plain (.slt [Kd.s] 0) []) (ref10_Vars_σok n) Tryd.func28 (by decide) h
def ref06_Texts_lv : Live := [(4, [0, 1, 5], [1000, 1001, 1002, 1003])]
noncomputable def ref06_Texts_σ (n : Nat) : Spec := Spec.none
theorem ref06_Texts_σok (n : Nat) : SpecOk Tryd.prog (ref06_Texts_σ n) := (SpecOk.none _)
noncomputable def ref06_Texts_Φ (n : Nat) : Orc := with_ Tryd.prog (ref06_Texts_σ n) [] n 0 hsL
noncomputable def ref06_Texts_v (n : Nat) (b0 : Bool) (r1 : Rows) (b2 : Bool) (r3 : Rows) : Option (Bool × Unit) :=
  DM.denFn tm (ref06_Texts_Φ n) ref06_Texts_lv n Tryd.f26 false [AV.sl b0 [Kd.s] r1 Right.no, AV.sl b2 [Kd.s] r3 Right.no] [] (OSh.chk (OSh.plain (.b) []))
noncomputable def ref06_Texts_l4 (n : Nat) (b0 : Bool) (r1 : Rows) (b2 : Bool) (r3 : Rows) (i0 : Nat) (j4 : Int) : Option (Bool × Unit) :=
  DM.loopFn tm (ref06_Texts_Φ n) ref06_Texts_lv n Tryd.f26 false [] (OSh.chk (OSh.plain (.b) [])) 4 [] i0 (St.mk [AV.sl b0 [Kd.s] r1 Right.no, AV.sl b2 [Kd.s] r3 Right.no, Jk, Jk, Jk, AV.dv (DV.val (Value.int IntKind.i64 j4)), Jk, Jk, Jk, Jk, Jk, Jk, Jk, Jk, Jk, Jk, Jk, Jk, Jk, Jk, Jk, Jk, Jk, Jk, Jk, Jk] [])
theorem ref06_Texts_s4 (n : Nat) (b0 : Bool) (r1 : Rows) (b2 : Bool) (r3 : Rows) (i0 : Nat) (j4 : Int) : ref06_Texts_l4 n b0 r1 b2 r3 (i0 + 1) j4 =
  bif decide (j4 < (↑(List.length r1) : Int)) then
    if 0 ≤ j4 then
      if j4 < (↑(List.length r1) : Int) then
        if 0 ≤ j4 then
          if j4 < (↑(List.length r3) : Int) then
            bif !Row.S (List.getD r1 (Int.toNat j4) []) 0 == Row.S (List.getD r3 (Int.toNat j4) []) 0 then
              some (false, ())
            else ref06_Texts_l4 n b0 r1 b2 r3 i0 (IntKind.wrap IntKind.i64 (j4 + 1))
          else none
        else none
      else none
    else none
  else some (true, ()) := by kernel_rfl
theorem ref06_Texts_e (n : Nat) (b0 : Bool) (r1 : Rows) (b2 : Bool) (r3 : Rows) : ref06_Texts_v n b0 r1 b2 r3 =
  bif (↑(List.length r1) : Int) != (↑(List.length r3) : Int) then
    some (false, ())
  else ref06_Texts_l4 n b0 r1 b2 r3 n 0 := by kernel_rfl
theorem ref06_Texts_c (n : Nat) (b0 : Bool) (r1 : Rows) (b2 : Bool) (r3 : Rows) (y : Bool × Unit) (h : ref06_Texts_v n b0 r1 b2 r3 = some y) : Contract Tryd.prog 26 [AV.sl b0 [Kd.s] r1 Right.no, AV.sl b2 [Kd.s] r3 Right.no] [] (OSh.enc (OSh.plain (.b) []) y) :=
  ac (OSh.plain (.b) []) (ref06_Texts_σok n) Tryd.func26 (by decide) h
def law10_CheckVars_lv : Live := []
noncomputable def law10_CheckVars_σ (n : Nat) : Spec := (inst 15 [.sl kdR, .i IntKind.i64] [] (OSh.plain (.i IntKind.i64) []) (fun x e => ref05_Weight_v n x.1.1 x.1.2 x.2.1) (inst 25 [] [] (OSh.plain (.b) []) (fun x e => law10_live_v n) (inst 27 [.agg [.s, .b, .i IntKind.i64, .s, .s, .sl kdT, .s, .b, .i IntKind.i64, .s, .sl kdL]] [] (OSh.plain (.slt [Kd.s] 0) []) (fun x e => check_Vars_v n x.1.1 x.1.2.1 x.1.2.2.1 x.1.2.2.2.1 x.1.2.2.2.2.1 x.1.2.2.2.2.2.1.1 x.1.2.2.2.2.2.1.2 x.1.2.2.2.2.2.2.1 x.1.2.2.2.2.2.2.2.1 x.1.2.2.2.2.2.2.2.2.1 x.1.2.2.2.2.2.2.2.2.2.1 x.1.2.2.2.2.2.2.2.2.2.2.1.1 x.1.2.2.2.2.2.2.2.2.2.2.1.2) (inst 28 [.agg [.s, .b, .i IntKind.i64, .s, .s, .sl kdT, .s, .b, .i IntKind.i64, .s, .sl kdL]] [] (OSh.plain (.slt [Kd.s] 0) []) (fun x e => ref10_Vars_v n x.1.1 x.1.2.1 x.1.2.2.1 x.1.2.2.2.1 x.1.2.2.2.2.1 x.1.2.2.2.2.2.1.1 x.1.2.2.2.2.2.1.2 x.1.2.2.2.2.2.2.1 x.1.2.2.2.2.2.2.2.1 x.1.2.2.2.2.2.2.2.2.1 x.1.2.2.2.2.2.2.2.2.2.1 x.1.2.2.2.2.2.2.2.2.2.2.1.1 x.1.2.2.2.2.2.2.2.2.2.2.1.2) (inst 26 [.sl [Kd.s], .sl [Kd.s]] [] (OSh.plain (.b) []) (fun x e => ref06_Texts_v n x.1.1 x.1.2 x.2.1.1 x.2.1.2) (inst 29 [.agg [.s, .b, .i IntKind.i64, .s, .s, .sl kdT, .s, .b, .i IntKind.i64, .s, .sl kdL], .i IntKind.i64] [] (OSh.plain (.slt [Kd.s] 0) []) (fun x e => check_Bound_v n x.1.1 x.1.2.1 x.1.2.2.1 x.1.2.2.2.1 x.1.2.2.2.2.1 x.1.2.2.2.2.2.1.1 x.1.2.2.2.2.2.1.2 x.1.2.2.2.2.2.2.1 x.1.2.2.2.2.2.2.2.1 x.1.2.2.2.2.2.2.2.2.1 x.1.2.2.2.2.2.2.2.2.2.1 x.1.2.2.2.2.2.2.2.2.2.2.1.1 x.1.2.2.2.2.2.2.2.2.2.2.1.2 x.2.1) (inst 30 [.agg [.s, .b, .i IntKind.i64, .s, .s, .sl kdT, .s, .b, .i IntKind.i64, .s, .sl kdL], .i IntKind.i64] [] (OSh.plain (.slt [Kd.s] 0) []) (fun x e => ref10_Bound_v n x.1.1 x.1.2.1 x.1.2.2.1 x.1.2.2.2.1 x.1.2.2.2.2.1 x.1.2.2.2.2.2.1.1 x.1.2.2.2.2.2.1.2 x.1.2.2.2.2.2.2.1 x.1.2.2.2.2.2.2.2.1 x.1.2.2.2.2.2.2.2.2.1 x.1.2.2.2.2.2.2.2.2.2.1 x.1.2.2.2.2.2.2.2.2.2.2.1.1 x.1.2.2.2.2.2.2.2.2.2.2.1.2 x.2.1) Spec.none)))))))
theorem law10_CheckVars_σok (n : Nat) : SpecOk Tryd.prog (law10_CheckVars_σ n) := (inst_ok (fun x e y h => ref05_Weight_c n x.1.1 x.1.2 x.2.1 y h) (inst_ok (fun x e y h => law10_live_c n y h) (inst_ok (fun x e y h => check_Vars_c n x.1.1 x.1.2.1 x.1.2.2.1 x.1.2.2.2.1 x.1.2.2.2.2.1 x.1.2.2.2.2.2.1.1 x.1.2.2.2.2.2.1.2 x.1.2.2.2.2.2.2.1 x.1.2.2.2.2.2.2.2.1 x.1.2.2.2.2.2.2.2.2.1 x.1.2.2.2.2.2.2.2.2.2.1 x.1.2.2.2.2.2.2.2.2.2.2.1.1 x.1.2.2.2.2.2.2.2.2.2.2.1.2 y h) (inst_ok (fun x e y h => ref10_Vars_c n x.1.1 x.1.2.1 x.1.2.2.1 x.1.2.2.2.1 x.1.2.2.2.2.1 x.1.2.2.2.2.2.1.1 x.1.2.2.2.2.2.1.2 x.1.2.2.2.2.2.2.1 x.1.2.2.2.2.2.2.2.1 x.1.2.2.2.2.2.2.2.2.1 x.1.2.2.2.2.2.2.2.2.2.1 x.1.2.2.2.2.2.2.2.2.2.2.1.1 x.1.2.2.2.2.2.2.2.2.2.2.1.2 y h) (inst_ok (fun x e y h => ref06_Texts_c n x.1.1 x.1.2 x.2.1.1 x.2.1.2 y h) (inst_ok (fun x e y h => check_Bound_c n x.1.1 x.1.2.1 x.1.2.2.1 x.1.2.2.2.1 x.1.2.2.2.2.1 x.1.2.2.2.2.2.1.1 x.1.2.2.2.2.2.1.2 x.1.2.2.2.2.2.2.1 x.1.2.2.2.2.2.2.2.1 x.1.2.2.2.2.2.2.2.2.1 x.1.2.2.2.2.2.2.2.2.2.1 x.1.2.2.2.2.2.2.2.2.2.2.1.1 x.1.2.2.2.2.2.2.2.2.2.2.1.2 x.2.1 y h) (inst_ok (fun x e y h => ref10_Bound_c n x.1.1 x.1.2.1 x.1.2.2.1 x.1.2.2.2.1 x.1.2.2.2.2.1 x.1.2.2.2.2.2.1.1 x.1.2.2.2.2.2.1.2 x.1.2.2.2.2.2.2.1 x.1.2.2.2.2.2.2.2.1 x.1.2.2.2.2.2.2.2.2.1 x.1.2.2.2.2.2.2.2.2.2.1 x.1.2.2.2.2.2.2.2.2.2.2.1.1 x.1.2.2.2.2.2.2.2.2.2.2.1.2 x.2.1 y h) (SpecOk.none _))))))))
noncomputable def law10_CheckVars_Φ (n : Nat) : Orc := with_ Tryd.prog (law10_CheckVars_σ n) [] n 0 hsL
noncomputable def law10_CheckVars_v (n : Nat) (s0 : ByteArray) (b1 : Bool) (j2 : Int) (s3 : ByteArray) (s4 : ByteArray) (b5 : Bool) (r6 : Rows) (s7 : ByteArray) (b8 : Bool) (j9 : Int) (s10 : ByteArray) (b11 : Bool) (r12 : Rows) (j13 : Int) : Option (Bool × Unit) :=
  DM.denFn tm (law10_CheckVars_Φ n) law10_CheckVars_lv n Tryd.f8 false [AV.agg [AV.dv (DV.val (Value.string s0)), AV.dv (DV.val (Value.bool b1)), AV.dv (DV.val (Value.int IntKind.i64 j2)), AV.dv (DV.val (Value.string s3)), AV.dv (DV.val (Value.string s4)), AV.sl b5 kdT r6 Right.no, AV.dv (DV.val (Value.string s7)), AV.dv (DV.val (Value.bool b8)), AV.dv (DV.val (Value.int IntKind.i64 j9)), AV.dv (DV.val (Value.string s10)), AV.sl b11 kdL r12 Right.no], AV.dv (DV.val (Value.int IntKind.i64 j13))] [] (OSh.chk (OSh.plain (.b) []))
theorem law10_CheckVars_e (n : Nat) (s0 : ByteArray) (b1 : Bool) (j2 : Int) (s3 : ByteArray) (s4 : ByteArray) (b5 : Bool) (r6 : Rows) (s7 : ByteArray) (b8 : Bool) (j9 : Int) (s10 : ByteArray) (b11 : Bool) (r12 : Rows) (j13 : Int) : law10_CheckVars_v n s0 b1 j2 s3 s4 b5 r6 s7 b8 j9 s10 b11 r12 j13 =
  obind (ref05_Weight_v n false ([[DV.val (Value.string s0), DV.val (Value.bool b1), DV.val (Value.int IntKind.i64 j2), DV.val (Value.string s3), DV.val (Value.string s4), DV.sl b5 kdT r6, DV.val (Value.string s7), DV.val (Value.bool b8), DV.val (Value.int IntKind.i64 j9), DV.val (Value.string s10), DV.sl b11 kdL r12]]) 300) fun y14 =>
  bif decide (y14.fst > 300) then
    obind (law10_live_v n) fun y15 =>
    some (y15.fst, ())
  else obind (check_Vars_v n s0 b1 j2 s3 s4 b5 r6 s7 b8 j9 s10 b11 r12) fun y16 =>
  obind (ref10_Vars_v n s0 b1 j2 s3 s4 b5 r6 s7 b8 j9 s10 b11 r12) fun y17 =>
  obind (ref06_Texts_v n y16.fst.fst y16.fst.snd y17.fst.fst y17.fst.snd) fun y18 =>
  bif y18.fst then
    obind (check_Bound_v n s0 b1 j2 s3 s4 b5 r6 s7 b8 j9 s10 b11 r12 j13) fun y19 =>
    obind (ref10_Bound_v n s0 b1 j2 s3 s4 b5 r6 s7 b8 j9 s10 b11 r12 j13) fun y20 =>
    obind (ref06_Texts_v n y19.fst.fst y19.fst.snd y20.fst.fst y20.fst.snd) fun y21 =>
    bif y21.fst then
      obind (law10_live_v n) fun y22 =>
      some (y22.fst, ())
    else some (false, ())
  else some (false, ()) := by kernel_rfl
theorem law10_CheckVars_c (n : Nat) (s0 : ByteArray) (b1 : Bool) (j2 : Int) (s3 : ByteArray) (s4 : ByteArray) (b5 : Bool) (r6 : Rows) (s7 : ByteArray) (b8 : Bool) (j9 : Int) (s10 : ByteArray) (b11 : Bool) (r12 : Rows) (j13 : Int) (y : Bool × Unit) (h : law10_CheckVars_v n s0 b1 j2 s3 s4 b5 r6 s7 b8 j9 s10 b11 r12 j13 = some y) : Contract Tryd.prog 8 [AV.agg [AV.dv (DV.val (Value.string s0)), AV.dv (DV.val (Value.bool b1)), AV.dv (DV.val (Value.int IntKind.i64 j2)), AV.dv (DV.val (Value.string s3)), AV.dv (DV.val (Value.string s4)), AV.sl b5 kdT r6 Right.no, AV.dv (DV.val (Value.string s7)), AV.dv (DV.val (Value.bool b8)), AV.dv (DV.val (Value.int IntKind.i64 j9)), AV.dv (DV.val (Value.string s10)), AV.sl b11 kdL r12 Right.no], AV.dv (DV.val (Value.int IntKind.i64 j13))] [] (OSh.enc (OSh.plain (.b) []) y) :=
  ac (OSh.plain (.b) []) (law10_CheckVars_σok n) Tryd.func8 (by decide) h
def law10_CheckBinds_lv : Live := [(7, [0, 6], [1000, 1001, 1002, 1003]), (11, [0, 6, 7, 8], [1000, 1001, 1002, 1003]), (19, [0, 6, 7, 12], [1000, 1001, 1002, 1003])]
noncomputable def law10_CheckBinds_σ (n : Nat) : Spec := (inst 15 [.sl kdR, .i IntKind.i64] [] (OSh.plain (.i IntKind.i64) []) (fun x e => ref05_Weight_v n x.1.1 x.1.2 x.2.1) (inst 25 [] [] (OSh.plain (.b) []) (fun x e => law10_live_v n) (inst 31 [.sl kdR] [] (OSh.plain (.tup [.i IntKind.i64, .i IntKind.i64, .i IntKind.i64]) []) (fun x e => check_Program_v n x.1.1 x.1.2) (inst 27 [.agg [.s, .b, .i IntKind.i64, .s, .s, .sl kdT, .s, .b, .i IntKind.i64, .s, .sl kdL]] [] (OSh.plain (.slt [Kd.s] 0) []) (fun x e => check_Vars_v n x.1.1 x.1.2.1 x.1.2.2.1 x.1.2.2.2.1 x.1.2.2.2.2.1 x.1.2.2.2.2.2.1.1 x.1.2.2.2.2.2.1.2 x.1.2.2.2.2.2.2.1 x.1.2.2.2.2.2.2.2.1 x.1.2.2.2.2.2.2.2.2.1 x.1.2.2.2.2.2.2.2.2.2.1 x.1.2.2.2.2.2.2.2.2.2.2.1.1 x.1.2.2.2.2.2.2.2.2.2.2.1.2) (inst 29 [.agg [.s, .b, .i IntKind.i64, .s, .s, .sl kdT, .s, .b, .i IntKind.i64, .s, .sl kdL], .i IntKind.i64] [] (OSh.plain (.slt [Kd.s] 0) []) (fun x e => check_Bound_v n x.1.1 x.1.2.1 x.1.2.2.1 x.1.2.2.2.1 x.1.2.2.2.2.1 x.1.2.2.2.2.2.1.1 x.1.2.2.2.2.2.1.2 x.1.2.2.2.2.2.2.1 x.1.2.2.2.2.2.2.2.1 x.1.2.2.2.2.2.2.2.2.1 x.1.2.2.2.2.2.2.2.2.2.1 x.1.2.2.2.2.2.2.2.2.2.2.1.1 x.1.2.2.2.2.2.2.2.2.2.2.1.2 x.2.1) (inst 26 [.sl [Kd.s], .sl [Kd.s]] [] (OSh.plain (.b) []) (fun x e => ref06_Texts_v n x.1.1 x.1.2 x.2.1.1 x.2.1.2) (inst 32 [.sl [Kd.s], .s] [] (OSh.plain (.b) []) (fun x e => ref10_Has_v n x.1.1 x.1.2 x.2.1) Spec.none)))))))
theorem law10_CheckBinds_σok (n : Nat) : SpecOk Tryd.prog (law10_CheckBinds_σ n) := (inst_ok (fun x e y h => ref05_Weight_c n x.1.1 x.1.2 x.2.1 y h) (inst_ok (fun x e y h => law10_live_c n y h) (inst_ok (fun x e y h => check_Program_c n x.1.1 x.1.2 y h) (inst_ok (fun x e y h => check_Vars_c n x.1.1 x.1.2.1 x.1.2.2.1 x.1.2.2.2.1 x.1.2.2.2.2.1 x.1.2.2.2.2.2.1.1 x.1.2.2.2.2.2.1.2 x.1.2.2.2.2.2.2.1 x.1.2.2.2.2.2.2.2.1 x.1.2.2.2.2.2.2.2.2.1 x.1.2.2.2.2.2.2.2.2.2.1 x.1.2.2.2.2.2.2.2.2.2.2.1.1 x.1.2.2.2.2.2.2.2.2.2.2.1.2 y h) (inst_ok (fun x e y h => check_Bound_c n x.1.1 x.1.2.1 x.1.2.2.1 x.1.2.2.2.1 x.1.2.2.2.2.1 x.1.2.2.2.2.2.1.1 x.1.2.2.2.2.2.1.2 x.1.2.2.2.2.2.2.1 x.1.2.2.2.2.2.2.2.1 x.1.2.2.2.2.2.2.2.2.1 x.1.2.2.2.2.2.2.2.2.2.1 x.1.2.2.2.2.2.2.2.2.2.2.1.1 x.1.2.2.2.2.2.2.2.2.2.2.1.2 x.2.1 y h) (inst_ok (fun x e y h => ref06_Texts_c n x.1.1 x.1.2 x.2.1.1 x.2.1.2 y h) (inst_ok (fun x e y h => ref10_Has_c n x.1.1 x.1.2 x.2.1 y h) (SpecOk.none _))))))))
noncomputable def law10_CheckBinds_Φ (n : Nat) : Orc := with_ Tryd.prog (law10_CheckBinds_σ n) [] n 0 hsL
noncomputable def law10_CheckBinds_v (n : Nat) (b0 : Bool) (r1 : Rows) : Option (Bool × Unit) :=
  DM.denFn tm (law10_CheckBinds_Φ n) law10_CheckBinds_lv n Tryd.f11 false [AV.sl b0 kdR r1 Right.no] [] (OSh.chk (OSh.plain (.b) []))
noncomputable def law10_CheckBinds_l7 (n : Nat) (b0 : Bool) (r1 : Rows) (i0 : Nat) (j19 : Int) : Option (Bool × Unit) :=
  DM.loopFn tm (law10_CheckBinds_Φ n) law10_CheckBinds_lv n Tryd.f11 false [] (OSh.chk (OSh.plain (.b) [])) 7 [] i0 (St.mk [AV.sl b0 kdR r1 Right.no, Jk, Jk, Jk, Jk, Jk, AV.dv (DV.val (Value.int IntKind.i64 j19)), Jk, Jk, Jk, Jk, Jk, Jk, Jk, Jk, Jk, Jk, Jk, Jk, Jk, Jk, Jk, Jk, Jk, Jk, Jk, Jk, Jk, Jk, Jk, Jk, Jk, Jk, Jk, Jk, Jk, Jk, Jk, Jk, Jk, Jk, Jk, Jk, Jk, Jk, Jk, Jk, Jk, Jk, Jk, Jk, Jk, Jk, Jk, Jk, Jk, Jk, Jk, Jk, Jk, Jk, Jk, Jk, Jk, Jk, Jk, Jk, Jk, Jk, Jk, Jk, Jk, Jk, Jk, Jk, Jk, Jk, Jk, Jk, Jk, Jk, Jk, Jk, Jk, Jk, Jk, Jk, Jk, Jk, Jk, Jk, Jk, Jk, Jk, Jk, Jk, Jk, Jk, Jk, Jk, Jk, Jk, Jk, Jk, Jk, Jk, Jk, Jk, Jk, Jk, Jk, Jk, Jk, Jk, Jk, Jk, Jk, Jk, Jk, Jk, Jk, Jk, Jk] [])
noncomputable def law10_CheckBinds_l11 (n : Nat) (b0 : Bool) (r1 : Rows) (i0 i1 : Nat) (b8 : Bool) (r9 : List (List DV)) (j14 : Int) (j22 : Int) : Option (Bool × Unit) :=
  DM.loopFn tm (law10_CheckBinds_Φ n) law10_CheckBinds_lv n Tryd.f11 false [] (OSh.chk (OSh.plain (.b) [])) 11 [i0] i1 (St.mk [AV.sl b0 kdR r1 Right.no, Jk, Jk, Jk, Jk, Jk, AV.dv (DV.val (Value.int IntKind.i64 j22)), AV.sl b8 [Kd.s] r9 (Right.tok 7), AV.dv (DV.val (Value.int IntKind.i64 j14)), Jk, Jk, Jk, Jk, Jk, Jk, Jk, Jk, Jk, Jk, Jk, Jk, Jk, Jk, Jk, Jk, Jk, Jk, Jk, Jk, Jk, Jk, Jk, Jk, Jk, Jk, Jk, Jk, Jk, Jk, Jk, Jk, Jk, Jk, Jk, Jk, Jk, Jk, Jk, Jk, Jk, Jk, Jk, Jk, Jk, Jk, Jk, Jk, Jk, Jk, Jk, Jk, Jk, Jk, Jk, Jk, Jk, Jk, Jk, Jk, Jk, Jk, Jk, Jk, Jk, Jk, Jk, Jk, Jk, Jk, Jk, Jk, Jk, Jk, Jk, Jk, Jk, Jk, Jk, Jk, Jk, Jk, Jk, Jk, Jk, Jk, Jk, Jk, Jk, Jk, Jk, Jk, Jk, Jk, Jk, Jk, Jk, Jk, Jk, Jk, Jk, Jk, Jk, Jk, Jk, Jk, Jk, Jk, Jk, Jk, Jk, Jk, Jk, Jk] [])
noncomputable def law10_CheckBinds_l19 (n : Nat) (b0 : Bool) (r1 : Rows) (i0 i1 : Nat) (b15 : Bool) (r16 : List (List DV)) (j18 : Int) (j28 : Int) : Option (Bool × Unit) :=
  DM.loopFn tm (law10_CheckBinds_Φ n) law10_CheckBinds_lv n Tryd.f11 false [] (OSh.chk (OSh.plain (.b) [])) 19 [i0] i1 (St.mk [AV.sl b0 kdR r1 Right.no, Jk, Jk, Jk, Jk, Jk, AV.dv (DV.val (Value.int IntKind.i64 j28)), AV.sl b15 [Kd.s] r16 (Right.tok 7), Jk, Jk, Jk, Jk, AV.dv (DV.val (Value.int IntKind.i64 j18)), Jk, Jk, Jk, Jk, Jk, Jk, Jk, Jk, Jk, Jk, Jk, Jk, Jk, Jk, Jk, Jk, Jk, Jk, Jk, Jk, Jk, Jk, Jk, Jk, Jk, Jk, Jk, Jk, Jk, Jk, Jk, Jk, Jk, Jk, Jk, Jk, Jk, Jk, Jk, Jk, Jk, Jk, Jk, Jk, Jk, Jk, Jk, Jk, Jk, Jk, Jk, Jk, Jk, Jk, Jk, Jk, Jk, Jk, Jk, Jk, Jk, Jk, Jk, Jk, Jk, Jk, Jk, Jk, Jk, Jk, Jk, Jk, Jk, Jk, Jk, Jk, Jk, Jk, Jk, Jk, Jk, Jk, Jk, Jk, Jk, Jk, Jk, Jk, Jk, Jk, Jk, Jk, Jk, Jk, Jk, Jk, Jk, Jk, Jk, Jk, Jk, Jk, Jk, Jk, Jk, Jk, Jk, Jk, Jk, Jk] [])
theorem law10_CheckBinds_s7 (n : Nat) (b0 : Bool) (r1 : Rows) (i0 : Nat) (j19 : Int) : law10_CheckBinds_l7 n b0 r1 (i0 + 1) j19 =
  bif decide (j19 < (↑(List.length r1) : Int)) then
    if 0 ≤ j19 then
      if j19 < (↑(List.length r1) : Int) then
        obind (check_Vars_v n (Row.S (List.getD r1 (Int.toNat j19) []) 0) (Row.B (List.getD r1 (Int.toNat j19) []) 1) (Row.I (List.getD r1 (Int.toNat j19) []) 2) (Row.S (List.getD r1 (Int.toNat j19) []) 3) (Row.S (List.getD r1 (Int.toNat j19) []) 4) (Row.N (List.getD r1 (Int.toNat j19) []) 5) (Row.R (List.getD r1 (Int.toNat j19) []) 5) (Row.S (List.getD r1 (Int.toNat j19) []) 6) (Row.B (List.getD r1 (Int.toNat j19) []) 7) (Row.I (List.getD r1 (Int.toNat j19) []) 8) (Row.S (List.getD r1 (Int.toNat j19) []) 9) (Row.N (List.getD r1 (Int.toNat j19) []) 10) (Row.R (List.getD r1 (Int.toNat j19) []) 10)) fun y20 =>
        law10_CheckBinds_l11 n b0 r1 i0 n y20.fst.fst y20.fst.snd 0 j19
      else none
    else none
  else obind (law10_live_v n) fun y21 =>
  some (y21.fst, ()) := by kernel_rfl
theorem law10_CheckBinds_s11 (n : Nat) (b0 : Bool) (r1 : Rows) (i0 i1 : Nat) (b8 : Bool) (r9 : List (List DV)) (j14 : Int) (j22 : Int) : law10_CheckBinds_l11 n b0 r1 i0 (i1 + 1) b8 r9 j14 j22 =
  if 0 ≤ j22 then
    if j22 < (↑(List.length r1) : Int) then
      bif decide (j14 < (↑(List.length (Row.R (List.getD r1 (Int.toNat j22) []) 10)) : Int)) then
        if 0 ≤ j22 then
          if j22 < (↑(List.length r1) : Int) then
            obind (check_Bound_v n (Row.S (List.getD r1 (Int.toNat j22) []) 0) (Row.B (List.getD r1 (Int.toNat j22) []) 1) (Row.I (List.getD r1 (Int.toNat j22) []) 2) (Row.S (List.getD r1 (Int.toNat j22) []) 3) (Row.S (List.getD r1 (Int.toNat j22) []) 4) (Row.N (List.getD r1 (Int.toNat j22) []) 5) (Row.R (List.getD r1 (Int.toNat j22) []) 5) (Row.S (List.getD r1 (Int.toNat j22) []) 6) (Row.B (List.getD r1 (Int.toNat j22) []) 7) (Row.I (List.getD r1 (Int.toNat j22) []) 8) (Row.S (List.getD r1 (Int.toNat j22) []) 9) (Row.N (List.getD r1 (Int.toNat j22) []) 10) (Row.R (List.getD r1 (Int.toNat j22) []) 10) j14) fun y24 =>
            if 0 ≤ j22 then
              if j22 < (↑(List.length r1) : Int) then
                obind (check_Bound_v n (Row.S (List.getD r1 (Int.toNat j22) []) 0) (Row.B (List.getD r1 (Int.toNat j22) []) 1) (Row.I (List.getD r1 (Int.toNat j22) []) 2) (Row.S (List.getD r1 (Int.toNat j22) []) 3) (Row.S (List.getD r1 (Int.toNat j22) []) 4) (Row.N (List.getD r1 (Int.toNat j22) []) 5) (Row.R (List.getD r1 (Int.toNat j22) []) 5) (Row.S (List.getD r1 (Int.toNat j22) []) 6) (Row.B (List.getD r1 (Int.toNat j22) []) 7) (Row.I (List.getD r1 (Int.toNat j22) []) 8) (Row.S (List.getD r1 (Int.toNat j22) []) 9) (Row.N (List.getD r1 (Int.toNat j22) []) 10) (Row.R (List.getD r1 (Int.toNat j22) []) 10) (IntKind.wrap IntKind.i64 (j14 + 1))) fun y25 =>
                if 0 ≤ j22 then
                  if j22 < (↑(List.length r1) : Int) then
                    if 0 ≤ j14 then
                      if j14 < (↑(List.length (Row.R (List.getD r1 (Int.toNat j22) []) 10)) : Int) then
                        bif decide ((↑(List.length y24.fst.snd) : Int) > (↑(List.length y25.fst.snd) : Int)) then
                          some (false, ())
                        else if (↑(List.length y24.fst.snd) : Int) ≤ (↑(List.length y25.fst.snd) : Int) then
                          obind (ref06_Texts_v n y24.fst.fst y24.fst.snd y25.fst.fst (List.drop 0 (List.take (Int.toNat (↑(List.length y24.fst.snd) : Int)) y25.fst.snd))) fun y26 =>
                          bif !y26.fst then
                            some (false, ())
                          else bif !Row.S (List.getD (Row.R (List.getD r1 (Int.toNat j22) []) 10) (Int.toNat j14) []) 6 == ByteArray.mk #[] then
                            obind (ref10_Has_v n y24.fst.fst y24.fst.snd (Row.S (List.getD (Row.R (List.getD r1 (Int.toNat j22) []) 10) (Int.toNat j14) []) 6)) fun y27 =>
                            bif !y27.fst then
                              some (false, ())
                            else law10_CheckBinds_l11 n b0 r1 i0 i1 b8 r9 (IntKind.wrap IntKind.i64 (j14 + 1)) j22
                          else law10_CheckBinds_l11 n b0 r1 i0 i1 b8 r9 (IntKind.wrap IntKind.i64 (j14 + 1)) j22
                        else none
                      else none
                    else none
                  else none
                else none
              else none
            else none
          else none
        else none
      else law10_CheckBinds_l19 n b0 r1 i0 n b8 r9 0 j22
    else none
  else none := by kernel_rfl
theorem law10_CheckBinds_s19 (n : Nat) (b0 : Bool) (r1 : Rows) (i0 i1 : Nat) (b15 : Bool) (r16 : List (List DV)) (j18 : Int) (j28 : Int) : law10_CheckBinds_l19 n b0 r1 i0 (i1 + 1) b15 r16 j18 j28 =
  if 0 ≤ j28 then
    if j28 < (↑(List.length r1) : Int) then
      bif decide (j18 < (↑(List.length (Row.R (List.getD r1 (Int.toNat j28) []) 5)) : Int)) then
        if 0 ≤ j28 then
          if j28 < (↑(List.length r1) : Int) then
            if 0 ≤ j18 then
              if j18 < (↑(List.length (Row.R (List.getD r1 (Int.toNat j28) []) 5)) : Int) then
                bif !Row.S (List.getD (Row.R (List.getD r1 (Int.toNat j28) []) 5) (Int.toNat j18) []) 0 == ByteArray.mk #[] then
                  obind (ref10_Has_v n b15 r16 (Row.S (List.getD (Row.R (List.getD r1 (Int.toNat j28) []) 5) (Int.toNat j18) []) 0)) fun y29 =>
                  bif !y29.fst then
                    some (false, ())
                  else law10_CheckBinds_l19 n b0 r1 i0 i1 b15 r16 (IntKind.wrap IntKind.i64 (j18 + 1)) j28
                else law10_CheckBinds_l19 n b0 r1 i0 i1 b15 r16 (IntKind.wrap IntKind.i64 (j18 + 1)) j28
              else none
            else none
          else none
        else none
      else law10_CheckBinds_l7 n b0 r1 i0 (IntKind.wrap IntKind.i64 (j28 + 1))
    else none
  else none := by kernel_rfl
theorem law10_CheckBinds_e (n : Nat) (b0 : Bool) (r1 : Rows) : law10_CheckBinds_v n b0 r1 =
  obind (ref05_Weight_v n b0 r1 300) fun y2 =>
  bif decide (y2.fst > 300) then
    obind (law10_live_v n) fun y3 =>
    some (y3.fst, ())
  else obind (check_Program_v n b0 r1) fun y4 =>
  bif y4.fst.fst != 0 then
    obind (law10_live_v n) fun y5 =>
    some (y5.fst, ())
  else law10_CheckBinds_l7 n b0 r1 n 0 := by kernel_rfl
theorem law10_CheckBinds_c (n : Nat) (b0 : Bool) (r1 : Rows) (y : Bool × Unit) (h : law10_CheckBinds_v n b0 r1 = some y) : Contract Tryd.prog 11 [AV.sl b0 kdR r1 Right.no] [] (OSh.enc (OSh.plain (.b) []) y) :=
  ac (OSh.plain (.b) []) (law10_CheckBinds_σok n) Tryd.func11 (by decide) h
def law10_CheckSome_lv : Live := [(8, [0, 1, 8, 9], [1000, 1001, 1002, 1003])]
noncomputable def law10_CheckSome_σ (n : Nat) : Spec := (inst 15 [.sl kdR, .i IntKind.i64] [] (OSh.plain (.i IntKind.i64) []) (fun x e => ref05_Weight_v n x.1.1 x.1.2 x.2.1) (inst 25 [] [] (OSh.plain (.b) []) (fun x e => law10_live_v n) (inst 31 [.sl kdR] [] (OSh.plain (.tup [.i IntKind.i64, .i IntKind.i64, .i IntKind.i64]) []) (fun x e => check_Program_v n x.1.1 x.1.2) Spec.none)))
theorem law10_CheckSome_σok (n : Nat) : SpecOk Tryd.prog (law10_CheckSome_σ n) := (inst_ok (fun x e y h => ref05_Weight_c n x.1.1 x.1.2 x.2.1 y h) (inst_ok (fun x e y h => law10_live_c n y h) (inst_ok (fun x e y h => check_Program_c n x.1.1 x.1.2 y h) (SpecOk.none _))))
noncomputable def law10_CheckSome_Φ (n : Nat) : Orc := with_ Tryd.prog (law10_CheckSome_σ n) [] n 0 hsL
noncomputable def law10_CheckSome_v (n : Nat) (b0 : Bool) (r1 : Rows) (j2 : Int) : Option (Bool × Unit) :=
  DM.denFn tm (law10_CheckSome_Φ n) law10_CheckSome_lv n Tryd.f9 false [AV.sl b0 kdR r1 Right.no, AV.dv (DV.val (Value.int IntKind.u64 j2))] [] (OSh.chk (OSh.plain (.b) []))
noncomputable def law10_CheckSome_l8 (n : Nat) (b0 : Bool) (r1 : Rows) (j2 : Int) (i0 : Nat) (b9 : Bool) (r10 : List (List DV)) (j11 : Int) : Option (Bool × Unit) :=
  DM.loopFn tm (law10_CheckSome_Φ n) law10_CheckSome_lv n Tryd.f9 false [] (OSh.chk (OSh.plain (.b) [])) 8 [] i0 (St.mk [AV.sl b0 kdR r1 Right.no, AV.dv (DV.val (Value.int IntKind.u64 j2)), Jk, Jk, Jk, Jk, Jk, Jk, AV.sl b9 kdR r10 (Right.tok 8), AV.dv (DV.val (Value.int IntKind.i64 j11)), Jk, Jk, Jk, Jk, Jk, Jk, Jk, Jk, Jk, Jk, Jk, Jk, Jk, Jk, Jk, Jk, Jk, Jk, Jk, Jk, Jk, Jk, Jk, Jk, Jk, Jk, Jk, Jk, Jk, Jk, Jk, Jk, Jk, Jk, Jk, Jk, Jk, Jk, Jk, Jk, Jk, Jk, Jk, Jk, Jk, Jk, Jk, Jk, Jk, Jk, Jk, Jk, Jk, Jk, Jk] [])
theorem law10_CheckSome_s8 (n : Nat) (b0 : Bool) (r1 : Rows) (j2 : Int) (i0 : Nat) (b9 : Bool) (r10 : List (List DV)) (j11 : Int) : law10_CheckSome_l8 n b0 r1 j2 (i0 + 1) b9 r10 j11 =
  bif decide (j11 < (↑(List.length r1) : Int)) then
    if IntKind.wrap IntKind.u64 (Int.tmod j11 60) < 0 then
      none
    else bif IntKind.wrap IntKind.u64 (↑(BitVec.toNat (BitVec.ofInt 64 (Int.fdiv j2 (2 ^ min (Int.toNat (IntKind.wrap IntKind.u64 (Int.tmod j11 60))) 64)) &&& BitVec.ofInt 64 1)) : Int) == 0 then
      if 0 ≤ j11 then
        if j11 < (↑(List.length r1) : Int) then
          if (List.length r10 + List.length [[DV.val (Value.string (Row.S (List.getD r1 (Int.toNat j11) []) 0)), DV.val (Value.bool (Row.B (List.getD r1 (Int.toNat j11) []) 1)), DV.val (Value.int IntKind.i64 (Row.I (List.getD r1 (Int.toNat j11) []) 2)), DV.val (Value.string (Row.S (List.getD r1 (Int.toNat j11) []) 3)), DV.val (Value.string (Row.S (List.getD r1 (Int.toNat j11) []) 4)), DV.sl (Row.N (List.getD r1 (Int.toNat j11) []) 5) kdT (Row.R (List.getD r1 (Int.toNat j11) []) 5), DV.val (Value.string (Row.S (List.getD r1 (Int.toNat j11) []) 6)), DV.val (Value.bool (Row.B (List.getD r1 (Int.toNat j11) []) 7)), DV.val (Value.int IntKind.i64 (Row.I (List.getD r1 (Int.toNat j11) []) 8)), DV.val (Value.string (Row.S (List.getD r1 (Int.toNat j11) []) 9)), DV.sl (Row.N (List.getD r1 (Int.toNat j11) []) 10) kdL (Row.R (List.getD r1 (Int.toNat j11) []) 10)]]) * 160 ≤ 140737488355328 then
            law10_CheckSome_l8 n b0 r1 j2 i0 (b9 && List.isEmpty [[DV.val (Value.string (Row.S (List.getD r1 (Int.toNat j11) []) 0)), DV.val (Value.bool (Row.B (List.getD r1 (Int.toNat j11) []) 1)), DV.val (Value.int IntKind.i64 (Row.I (List.getD r1 (Int.toNat j11) []) 2)), DV.val (Value.string (Row.S (List.getD r1 (Int.toNat j11) []) 3)), DV.val (Value.string (Row.S (List.getD r1 (Int.toNat j11) []) 4)), DV.sl (Row.N (List.getD r1 (Int.toNat j11) []) 5) kdT (Row.R (List.getD r1 (Int.toNat j11) []) 5), DV.val (Value.string (Row.S (List.getD r1 (Int.toNat j11) []) 6)), DV.val (Value.bool (Row.B (List.getD r1 (Int.toNat j11) []) 7)), DV.val (Value.int IntKind.i64 (Row.I (List.getD r1 (Int.toNat j11) []) 8)), DV.val (Value.string (Row.S (List.getD r1 (Int.toNat j11) []) 9)), DV.sl (Row.N (List.getD r1 (Int.toNat j11) []) 10) kdL (Row.R (List.getD r1 (Int.toNat j11) []) 10)]]) (appX r10 [[DV.val (Value.string (Row.S (List.getD r1 (Int.toNat j11) []) 0)), DV.val (Value.bool (Row.B (List.getD r1 (Int.toNat j11) []) 1)), DV.val (Value.int IntKind.i64 (Row.I (List.getD r1 (Int.toNat j11) []) 2)), DV.val (Value.string (Row.S (List.getD r1 (Int.toNat j11) []) 3)), DV.val (Value.string (Row.S (List.getD r1 (Int.toNat j11) []) 4)), DV.sl (Row.N (List.getD r1 (Int.toNat j11) []) 5) kdT (Row.R (List.getD r1 (Int.toNat j11) []) 5), DV.val (Value.string (Row.S (List.getD r1 (Int.toNat j11) []) 6)), DV.val (Value.bool (Row.B (List.getD r1 (Int.toNat j11) []) 7)), DV.val (Value.int IntKind.i64 (Row.I (List.getD r1 (Int.toNat j11) []) 8)), DV.val (Value.string (Row.S (List.getD r1 (Int.toNat j11) []) 9)), DV.sl (Row.N (List.getD r1 (Int.toNat j11) []) 10) kdL (Row.R (List.getD r1 (Int.toNat j11) []) 10)]]) (IntKind.wrap IntKind.i64 (j11 + 1))
          else none
        else none
      else none
    else law10_CheckSome_l8 n b0 r1 j2 i0 b9 r10 (IntKind.wrap IntKind.i64 (j11 + 1))
  else obind (check_Program_v n b9 r10) fun y12 =>
  bif y12.fst.fst == 0 then
    bif y12.fst.snd.fst == -1 then
      bif y12.fst.snd.snd.fst == -1 then
        obind (law10_live_v n) fun y13 =>
        some (y13.fst, ())
      else some (false, ())
    else some (false, ())
  else some (false, ()) := by kernel_rfl
theorem law10_CheckSome_e (n : Nat) (b0 : Bool) (r1 : Rows) (j2 : Int) : law10_CheckSome_v n b0 r1 j2 =
  obind (ref05_Weight_v n b0 r1 300) fun y3 =>
  bif decide (y3.fst > 300) then
    obind (law10_live_v n) fun y4 =>
    some (y4.fst, ())
  else obind (check_Program_v n b0 r1) fun y5 =>
  bif y5.fst.fst != 0 then
    obind (law10_live_v n) fun y6 =>
    some (y6.fst, ())
  else law10_CheckSome_l8 n b0 r1 j2 n true [] 0 := by kernel_rfl
theorem law10_CheckSome_c (n : Nat) (b0 : Bool) (r1 : Rows) (j2 : Int) (y : Bool × Unit) (h : law10_CheckSome_v n b0 r1 j2 = some y) : Contract Tryd.prog 9 [AV.sl b0 kdR r1 Right.no, AV.dv (DV.val (Value.int IntKind.u64 j2))] [] (OSh.enc (OSh.plain (.b) []) y) :=
  ac (OSh.plain (.b) []) (law10_CheckSome_σok n) Tryd.func9 (by decide) h
end Go.Den

