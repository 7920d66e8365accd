import Derived.Test.YtefebdknnedioaaE08a
set_option linter.unusedVariables false
set_option linter.unusedSimpArgs false
set_option linter.unusedSectionVars false
namespace Go.Den
open Go.Proofs
set_option maxRecDepth 100000
/-! parse_parser_literal: function 60 -/
def parse_parser_literal_lv : Live := []
noncomputable def parse_parser_literal_σ (n : Nat) : Spec := (inst 53 [.pl 1000 0] [[.sl [Kd.i IntKind.i64, Kd.s, Kd.i IntKind.i64, Kd.i IntKind.i64], .i IntKind.i64]] (OSh.plain (.agg [.i IntKind.i64, .s, .i IntKind.i64, .i IntKind.i64]) [[.sl [Kd.i IntKind.i64, Kd.s, Kd.i IntKind.i64, Kd.i IntKind.i64], .i IntKind.i64]]) (fun x e => parse_parser_next_v n e.1.1.1 e.1.1.2 e.1.2.1) (inst 55 [.pl 1000 0] [[.sl [Kd.i IntKind.i64, Kd.s, Kd.i IntKind.i64, Kd.i IntKind.i64], .i IntKind.i64]] (OSh.pan (.agg [.s, .b, .i IntKind.i64, .s]) (.ifc 53 (.agg [.i IntKind.i64, .i IntKind.i64])) [[.sl [Kd.i IntKind.i64, Kd.s, Kd.i IntKind.i64, Kd.i IntKind.i64], .i IntKind.i64]]) (fun x e => parse_parser_term_v n e.1.1.1 e.1.1.2 e.1.2.1) (inst 56 [.pl 1000 0, .s] [[.sl [Kd.i IntKind.i64, Kd.s, Kd.i IntKind.i64, Kd.i IntKind.i64], .i IntKind.i64]] (OSh.pan (.tup []) (.ifc 53 (.agg [.i IntKind.i64, .i IntKind.i64])) [[.sl [Kd.i IntKind.i64, Kd.s, Kd.i IntKind.i64, Kd.i IntKind.i64], .i IntKind.i64]]) (fun x e => parse_parser_must_v n x.2.1 e.1.1.1 e.1.1.2 e.1.2.1) (inst 57 [.pl 1000 0] [[.sl [Kd.i IntKind.i64, Kd.s, Kd.i IntKind.i64, Kd.i IntKind.i64], .i IntKind.i64]] (OSh.pan (.s) (.ifc 53 (.agg [.i IntKind.i64, .i IntKind.i64])) [[.sl [Kd.i IntKind.i64, Kd.s, Kd.i IntKind.i64, Kd.i IntKind.i64], .i IntKind.i64]]) (fun x e => parse_parser_word_v n e.1.1.1 e.1.1.2 e.1.2.1) (inst 58 [.pl 1000 0] [[.sl [Kd.i IntKind.i64, Kd.s, Kd.i IntKind.i64, Kd.i IntKind.i64], .i IntKind.i64]] (OSh.pan (.slt [Kd.s, Kd.b, Kd.i IntKind.i64, Kd.s] 0) (.ifc 53 (.agg [.i IntKind.i64, .i IntKind.i64])) [[.sl [Kd.i IntKind.i64, Kd.s, Kd.i IntKind.i64, Kd.i IntKind.i64], .i IntKind.i64]]) (fun x e => parse_parser_args_v n e.1.1.1 e.1.1.2 e.1.2.1) (inst 59 [.pl 1000 0, .s] [[.sl [Kd.i IntKind.i64, Kd.s, Kd.i IntKind.i64, Kd.i IntKind.i64], .i IntKind.i64]] (OSh.plain (.b) [[.sl [Kd.i IntKind.i64, Kd.s, Kd.i IntKind.i64, Kd.i IntKind.i64], .i IntKind.i64]]) (fun x e => parse_parser_pass_v n x.2.1 e.1.1.1 e.1.1.2 e.1.2.1) Spec.none))))))
theorem parse_parser_literal_σok (n : Nat) : SpecOk Try.prog (parse_parser_literal_σ n) := (inst_ok (fun x e y h => parse_parser_next_c n e.1.1.1 e.1.1.2 e.1.2.1 y h) (inst_ok (fun x e y h => parse_parser_term_c n e.1.1.1 e.1.1.2 e.1.2.1 y h) (inst_ok (fun x e y h => parse_parser_must_c n x.2.1 e.1.1.1 e.1.1.2 e.1.2.1 y h) (inst_ok (fun x e y h => parse_parser_word_c n e.1.1.1 e.1.1.2 e.1.2.1 y h) (inst_ok (fun x e y h => parse_parser_args_c n e.1.1.1 e.1.1.2 e.1.2.1 y h) (inst_ok (fun x e y h => parse_parser_pass_c n x.2.1 e.1.1.1 e.1.1.2 e.1.2.1 y h) (SpecOk.none _)))))))
noncomputable def parse_parser_literal_Φ (n : Nat) : Orc := with_ Try.prog (parse_parser_literal_σ n) [] n 0 []
noncomputable def parse_parser_literal_v (n : Nat) (b0 : Bool) (r1 : Rows) (j2 : Int) : Option (Bool × (ByteArray × Bool × Int × ByteArray × ByteArray × (Bool × Rows) × ByteArray × Bool × Int × ByteArray × Unit) × (Int × Int × Unit) × ((Bool × Rows) × Int × Unit) × Unit) :=
  DM.denFn tm (parse_parser_literal_Φ n) parse_parser_literal_lv n Try.f60 false [AV.pl 1000 0] [[AV.sl b0 [Kd.i IntKind.i64, Kd.s, Kd.i IntKind.i64, Kd.i IntKind.i64] r1 Right.no, AV.dv (DV.val (Value.int IntKind.i64 j2))]] (OSh.chk (OSh.pan (.agg [.s, .b, .i IntKind.i64, .s, .s, .sl [Kd.s, Kd.b, Kd.i IntKind.i64, Kd.s], .s, .b, .i IntKind.i64, .s]) (.ifc 53 (.agg [.i IntKind.i64, .i IntKind.i64])) [[.sl [Kd.i IntKind.i64, Kd.s, Kd.i IntKind.i64, Kd.i IntKind.i64], .i IntKind.i64]]))
theorem parse_parser_literal_e (n : Nat) (b0 : Bool) (r1 : Rows) (j2 : Int) : parse_parser_literal_v n b0 r1 j2 =
  obind (parse_parser_next_v n b0 r1 j2) fun y3 =>
  bif decide ((↑(List.length y3.snd.fst.fst.snd) : Int) > 1) then
    if 1 < (↑(List.length y3.snd.fst.fst.snd) : Int) then
      bif Row.I (List.getD y3.snd.fst.fst.snd 1 []) 0 == 1 then
        if 1 < (↑(List.length y3.snd.fst.fst.snd) : Int) then
          bif Row.S (List.getD y3.snd.fst.fst.snd 1 []) 1 == ByteArray.mk #[115, 97, 121, 115] then
            obind (parse_parser_term_v n y3.snd.fst.fst.fst y3.snd.fst.fst.snd y3.snd.fst.snd.fst) fun y4 =>
            bif y4.fst then
              some (true, Sh.dflt (.agg [.s, .b, .i IntKind.i64, .s, .s, .sl [Kd.s, Kd.b, Kd.i IntKind.i64, Kd.s], .s, .b, .i IntKind.i64, .s]), (y4.snd.snd.fst.fst, (y4.snd.snd.fst.snd.fst, ())), (((y4.snd.snd.snd.fst.fst.fst, y4.snd.snd.snd.fst.fst.snd), (y4.snd.snd.snd.fst.snd.fst, ())), ()))
            else obind (parse_parser_must_v n (ByteArray.mk #[115, 97, 121, 115]) y4.snd.snd.snd.fst.fst.fst y4.snd.snd.snd.fst.fst.snd y4.snd.snd.snd.fst.snd.fst) fun y5 =>
            bif y5.fst then
              some (true, Sh.dflt (.agg [.s, .b, .i IntKind.i64, .s, .s, .sl [Kd.s, Kd.b, Kd.i IntKind.i64, Kd.s], .s, .b, .i IntKind.i64, .s]), (y5.snd.snd.fst.fst, (y5.snd.snd.fst.snd.fst, ())), (((y5.snd.snd.snd.fst.fst.fst, y5.snd.snd.snd.fst.fst.snd), (y5.snd.snd.snd.fst.snd.fst, ())), ()))
            else obind (parse_parser_word_v n y5.snd.snd.snd.fst.fst.fst y5.snd.snd.snd.fst.fst.snd y5.snd.snd.snd.fst.snd.fst) fun y6 =>
            bif y6.fst then
              some (true, Sh.dflt (.agg [.s, .b, .i IntKind.i64, .s, .s, .sl [Kd.s, Kd.b, Kd.i IntKind.i64, Kd.s], .s, .b, .i IntKind.i64, .s]), (y6.snd.snd.fst.fst, (y6.snd.snd.fst.snd.fst, ())), (((y6.snd.snd.snd.fst.fst.fst, y6.snd.snd.snd.fst.fst.snd), (y6.snd.snd.snd.fst.snd.fst, ())), ()))
            else obind (parse_parser_args_v n y6.snd.snd.snd.fst.fst.fst y6.snd.snd.snd.fst.fst.snd y6.snd.snd.snd.fst.snd.fst) fun y7 =>
            bif y7.fst then
              some (true, Sh.dflt (.agg [.s, .b, .i IntKind.i64, .s, .s, .sl [Kd.s, Kd.b, Kd.i IntKind.i64, Kd.s], .s, .b, .i IntKind.i64, .s]), (y7.snd.snd.fst.fst, (y7.snd.snd.fst.snd.fst, ())), (((y7.snd.snd.snd.fst.fst.fst, y7.snd.snd.snd.fst.fst.snd), (y7.snd.snd.snd.fst.snd.fst, ())), ()))
            else obind (parse_parser_pass_v n (ByteArray.mk #[97, 116]) y7.snd.snd.snd.fst.fst.fst y7.snd.snd.snd.fst.fst.snd y7.snd.snd.snd.fst.snd.fst) fun y8 =>
            bif y8.fst then
              obind (parse_parser_term_v n y8.snd.fst.fst.fst y8.snd.fst.fst.snd y8.snd.fst.snd.fst) fun y9 =>
              bif y9.fst then
                some (true, Sh.dflt (.agg [.s, .b, .i IntKind.i64, .s, .s, .sl [Kd.s, Kd.b, Kd.i IntKind.i64, Kd.s], .s, .b, .i IntKind.i64, .s]), (y9.snd.snd.fst.fst, (y9.snd.snd.fst.snd.fst, ())), (((y9.snd.snd.snd.fst.fst.fst, y9.snd.snd.snd.fst.fst.snd), (y9.snd.snd.snd.fst.snd.fst, ())), ()))
              else some (false, (y4.snd.fst.fst, (y4.snd.fst.snd.fst, (y4.snd.fst.snd.snd.fst, (y4.snd.fst.snd.snd.snd.fst, (y6.snd.fst, ((y7.snd.fst.fst, y7.snd.fst.snd), (y9.snd.fst.fst, (y9.snd.fst.snd.fst, (y9.snd.fst.snd.snd.fst, (y9.snd.fst.snd.snd.snd.fst, ())))))))))), Sh.dflt (.ifc 53 (.agg [.i IntKind.i64, .i IntKind.i64])), (((y9.snd.snd.snd.fst.fst.fst, y9.snd.snd.snd.fst.fst.snd), (y9.snd.snd.snd.fst.snd.fst, ())), ()))
            else some (false, (y4.snd.fst.fst, (y4.snd.fst.snd.fst, (y4.snd.fst.snd.snd.fst, (y4.snd.fst.snd.snd.snd.fst, (y6.snd.fst, ((y7.snd.fst.fst, y7.snd.fst.snd), (ByteArray.mk #[], (false, (0, (ByteArray.mk #[], ())))))))))), Sh.dflt (.ifc 53 (.agg [.i IntKind.i64, .i IntKind.i64])), (((y8.snd.fst.fst.fst, y8.snd.fst.fst.snd), (y8.snd.fst.snd.fst, ())), ()))
          else bif y3.fst.fst != 1 then
            obind (parse_parser_term_v n y3.snd.fst.fst.fst y3.snd.fst.fst.snd y3.snd.fst.snd.fst) fun y10 =>
            bif y10.fst then
              some (true, Sh.dflt (.agg [.s, .b, .i IntKind.i64, .s, .s, .sl [Kd.s, Kd.b, Kd.i IntKind.i64, Kd.s], .s, .b, .i IntKind.i64, .s]), (y10.snd.snd.fst.fst, (y10.snd.snd.fst.snd.fst, ())), (((y10.snd.snd.snd.fst.fst.fst, y10.snd.snd.snd.fst.fst.snd), (y10.snd.snd.snd.fst.snd.fst, ())), ()))
            else obind (parse_parser_must_v n (ByteArray.mk #[115, 97, 121, 115]) y10.snd.snd.snd.fst.fst.fst y10.snd.snd.snd.fst.fst.snd y10.snd.snd.snd.fst.snd.fst) fun y11 =>
            bif y11.fst then
              some (true, Sh.dflt (.agg [.s, .b, .i IntKind.i64, .s, .s, .sl [Kd.s, Kd.b, Kd.i IntKind.i64, Kd.s], .s, .b, .i IntKind.i64, .s]), (y11.snd.snd.fst.fst, (y11.snd.snd.fst.snd.fst, ())), (((y11.snd.snd.snd.fst.fst.fst, y11.snd.snd.snd.fst.fst.snd), (y11.snd.snd.snd.fst.snd.fst, ())), ()))
            else obind (parse_parser_word_v n y11.snd.snd.snd.fst.fst.fst y11.snd.snd.snd.fst.fst.snd y11.snd.snd.snd.fst.snd.fst) fun y12 =>
            bif y12.fst then
              some (true, Sh.dflt (.agg [.s, .b, .i IntKind.i64, .s, .s, .sl [Kd.s, Kd.b, Kd.i IntKind.i64, Kd.s], .s, .b, .i IntKind.i64, .s]), (y12.snd.snd.fst.fst, (y12.snd.snd.fst.snd.fst, ())), (((y12.snd.snd.snd.fst.fst.fst, y12.snd.snd.snd.fst.fst.snd), (y12.snd.snd.snd.fst.snd.fst, ())), ()))
            else obind (parse_parser_args_v n y12.snd.snd.snd.fst.fst.fst y12.snd.snd.snd.fst.fst.snd y12.snd.snd.snd.fst.snd.fst) fun y13 =>
            bif y13.fst then
              some (true, Sh.dflt (.agg [.s, .b, .i IntKind.i64, .s, .s, .sl [Kd.s, Kd.b, Kd.i IntKind.i64, Kd.s], .s, .b, .i IntKind.i64, .s]), (y13.snd.snd.fst.fst, (y13.snd.snd.fst.snd.fst, ())), (((y13.snd.snd.snd.fst.fst.fst, y13.snd.snd.snd.fst.fst.snd), (y13.snd.snd.snd.fst.snd.fst, ())), ()))
            else obind (parse_parser_pass_v n (ByteArray.mk #[97, 116]) y13.snd.snd.snd.fst.fst.fst y13.snd.snd.snd.fst.fst.snd y13.snd.snd.snd.fst.snd.fst) fun y14 =>
            bif y14.fst then
              obind (parse_parser_term_v n y14.snd.fst.fst.fst y14.snd.fst.fst.snd y14.snd.fst.snd.fst) fun y15 =>
              bif y15.fst then
                some (true, Sh.dflt (.agg [.s, .b, .i IntKind.i64, .s, .s, .sl [Kd.s, Kd.b, Kd.i IntKind.i64, Kd.s], .s, .b, .i IntKind.i64, .s]), (y15.snd.snd.fst.fst, (y15.snd.snd.fst.snd.fst, ())), (((y15.snd.snd.snd.fst.fst.fst, y15.snd.snd.snd.fst.fst.snd), (y15.snd.snd.snd.fst.snd.fst, ())), ()))
              else some (false, (y10.snd.fst.fst, (y10.snd.fst.snd.fst, (y10.snd.fst.snd.snd.fst, (y10.snd.fst.snd.snd.snd.fst, (y12.snd.fst, ((y13.snd.fst.fst, y13.snd.fst.snd), (y15.snd.fst.fst, (y15.snd.fst.snd.fst, (y15.snd.fst.snd.snd.fst, (y15.snd.fst.snd.snd.snd.fst, ())))))))))), Sh.dflt (.ifc 53 (.agg [.i IntKind.i64, .i IntKind.i64])), (((y15.snd.snd.snd.fst.fst.fst, y15.snd.snd.snd.fst.fst.snd), (y15.snd.snd.snd.fst.snd.fst, ())), ()))
            else some (false, (y10.snd.fst.fst, (y10.snd.fst.snd.fst, (y10.snd.fst.snd.snd.fst, (y10.snd.fst.snd.snd.snd.fst, (y12.snd.fst, ((y13.snd.fst.fst, y13.snd.fst.snd), (ByteArray.mk #[], (false, (0, (ByteArray.mk #[], ())))))))))), Sh.dflt (.ifc 53 (.agg [.i IntKind.i64, .i IntKind.i64])), (((y14.snd.fst.fst.fst, y14.snd.fst.fst.snd), (y14.snd.fst.snd.fst, ())), ()))
          else obind (parse_parser_word_v n y3.snd.fst.fst.fst y3.snd.fst.fst.snd y3.snd.fst.snd.fst) fun y16 =>
          bif y16.fst then
            some (true, Sh.dflt (.agg [.s, .b, .i IntKind.i64, .s, .s, .sl [Kd.s, Kd.b, Kd.i IntKind.i64, Kd.s], .s, .b, .i IntKind.i64, .s]), (y16.snd.snd.fst.fst, (y16.snd.snd.fst.snd.fst, ())), (((y16.snd.snd.snd.fst.fst.fst, y16.snd.snd.snd.fst.fst.snd), (y16.snd.snd.snd.fst.snd.fst, ())), ()))
          else obind (parse_parser_args_v n y16.snd.snd.snd.fst.fst.fst y16.snd.snd.snd.fst.fst.snd y16.snd.snd.snd.fst.snd.fst) fun y17 =>
          bif y17.fst then
            some (true, Sh.dflt (.agg [.s, .b, .i IntKind.i64, .s, .s, .sl [Kd.s, Kd.b, Kd.i IntKind.i64, Kd.s], .s, .b, .i IntKind.i64, .s]), (y17.snd.snd.fst.fst, (y17.snd.snd.fst.snd.fst, ())), (((y17.snd.snd.snd.fst.fst.fst, y17.snd.snd.snd.fst.fst.snd), (y17.snd.snd.snd.fst.snd.fst, ())), ()))
          else obind (parse_parser_pass_v n (ByteArray.mk #[97, 116]) y17.snd.snd.snd.fst.fst.fst y17.snd.snd.snd.fst.fst.snd y17.snd.snd.snd.fst.snd.fst) fun y18 =>
          bif y18.fst then
            obind (parse_parser_term_v n y18.snd.fst.fst.fst y18.snd.fst.fst.snd y18.snd.fst.snd.fst) fun y19 =>
            bif y19.fst then
              some (true, Sh.dflt (.agg [.s, .b, .i IntKind.i64, .s, .s, .sl [Kd.s, Kd.b, Kd.i IntKind.i64, Kd.s], .s, .b, .i IntKind.i64, .s]), (y19.snd.snd.fst.fst, (y19.snd.snd.fst.snd.fst, ())), (((y19.snd.snd.snd.fst.fst.fst, y19.snd.snd.snd.fst.fst.snd), (y19.snd.snd.snd.fst.snd.fst, ())), ()))
            else some (false, (ByteArray.mk #[], (false, (0, (ByteArray.mk #[], (y16.snd.fst, ((y17.snd.fst.fst, y17.snd.fst.snd), (y19.snd.fst.fst, (y19.snd.fst.snd.fst, (y19.snd.fst.snd.snd.fst, (y19.snd.fst.snd.snd.snd.fst, ())))))))))), Sh.dflt (.ifc 53 (.agg [.i IntKind.i64, .i IntKind.i64])), (((y19.snd.snd.snd.fst.fst.fst, y19.snd.snd.snd.fst.fst.snd), (y19.snd.snd.snd.fst.snd.fst, ())), ()))
          else some (false, (ByteArray.mk #[], (false, (0, (ByteArray.mk #[], (y16.snd.fst, ((y17.snd.fst.fst, y17.snd.fst.snd), (ByteArray.mk #[], (false, (0, (ByteArray.mk #[], ())))))))))), Sh.dflt (.ifc 53 (.agg [.i IntKind.i64, .i IntKind.i64])), (((y18.snd.fst.fst.fst, y18.snd.fst.fst.snd), (y18.snd.fst.snd.fst, ())), ()))
        else none
      else bif y3.fst.fst != 1 then
        obind (parse_parser_term_v n y3.snd.fst.fst.fst y3.snd.fst.fst.snd y3.snd.fst.snd.fst) fun y20 =>
        bif y20.fst then
          some (true, Sh.dflt (.agg [.s, .b, .i IntKind.i64, .s, .s, .sl [Kd.s, Kd.b, Kd.i IntKind.i64, Kd.s], .s, .b, .i IntKind.i64, .s]), (y20.snd.snd.fst.fst, (y20.snd.snd.fst.snd.fst, ())), (((y20.snd.snd.snd.fst.fst.fst, y20.snd.snd.snd.fst.fst.snd), (y20.snd.snd.snd.fst.snd.fst, ())), ()))
        else obind (parse_parser_must_v n (ByteArray.mk #[115, 97, 121, 115]) y20.snd.snd.snd.fst.fst.fst y20.snd.snd.snd.fst.fst.snd y20.snd.snd.snd.fst.snd.fst) fun y21 =>
        bif y21.fst then
          some (true, Sh.dflt (.agg [.s, .b, .i IntKind.i64, .s, .s, .sl [Kd.s, Kd.b, Kd.i IntKind.i64, Kd.s], .s, .b, .i IntKind.i64, .s]), (y21.snd.snd.fst.fst, (y21.snd.snd.fst.snd.fst, ())), (((y21.snd.snd.snd.fst.fst.fst, y21.snd.snd.snd.fst.fst.snd), (y21.snd.snd.snd.fst.snd.fst, ())), ()))
        else obind (parse_parser_word_v n y21.snd.snd.snd.fst.fst.fst y21.snd.snd.snd.fst.fst.snd y21.snd.snd.snd.fst.snd.fst) fun y22 =>
        bif y22.fst then
          some (true, Sh.dflt (.agg [.s, .b, .i IntKind.i64, .s, .s, .sl [Kd.s, Kd.b, Kd.i IntKind.i64, Kd.s], .s, .b, .i IntKind.i64, .s]), (y22.snd.snd.fst.fst, (y22.snd.snd.fst.snd.fst, ())), (((y22.snd.snd.snd.fst.fst.fst, y22.snd.snd.snd.fst.fst.snd), (y22.snd.snd.snd.fst.snd.fst, ())), ()))
        else obind (parse_parser_args_v n y22.snd.snd.snd.fst.fst.fst y22.snd.snd.snd.fst.fst.snd y22.snd.snd.snd.fst.snd.fst) fun y23 =>
        bif y23.fst then
          some (true, Sh.dflt (.agg [.s, .b, .i IntKind.i64, .s, .s, .sl [Kd.s, Kd.b, Kd.i IntKind.i64, Kd.s], .s, .b, .i IntKind.i64, .s]), (y23.snd.snd.fst.fst, (y23.snd.snd.fst.snd.fst, ())), (((y23.snd.snd.snd.fst.fst.fst, y23.snd.snd.snd.fst.fst.snd), (y23.snd.snd.snd.fst.snd.fst, ())), ()))
        else obind (parse_parser_pass_v n (ByteArray.mk #[97, 116]) y23.snd.snd.snd.fst.fst.fst y23.snd.snd.snd.fst.fst.snd y23.snd.snd.snd.fst.snd.fst) fun y24 =>
        bif y24.fst then
          obind (parse_parser_term_v n y24.snd.fst.fst.fst y24.snd.fst.fst.snd y24.snd.fst.snd.fst) fun y25 =>
          bif y25.fst then
            some (true, Sh.dflt (.agg [.s, .b, .i IntKind.i64, .s, .s, .sl [Kd.s, Kd.b, Kd.i IntKind.i64, Kd.s], .s, .b, .i IntKind.i64, .s]), (y25.snd.snd.fst.fst, (y25.snd.snd.fst.snd.fst, ())), (((y25.snd.snd.snd.fst.fst.fst, y25.snd.snd.snd.fst.fst.snd), (y25.snd.snd.snd.fst.snd.fst, ())), ()))
          else some (false, (y20.snd.fst.fst, (y20.snd.fst.snd.fst, (y20.snd.fst.snd.snd.fst, (y20.snd.fst.snd.snd.snd.fst, (y22.snd.fst, ((y23.snd.fst.fst, y23.snd.fst.snd), (y25.snd.fst.fst, (y25.snd.fst.snd.fst, (y25.snd.fst.snd.snd.fst, (y25.snd.fst.snd.snd.snd.fst, ())))))))))), Sh.dflt (.ifc 53 (.agg [.i IntKind.i64, .i IntKind.i64])), (((y25.snd.snd.snd.fst.fst.fst, y25.snd.snd.snd.fst.fst.snd), (y25.snd.snd.snd.fst.snd.fst, ())), ()))
        else some (false, (y20.snd.fst.fst, (y20.snd.fst.snd.fst, (y20.snd.fst.snd.snd.fst, (y20.snd.fst.snd.snd.snd.fst, (y22.snd.fst, ((y23.snd.fst.fst, y23.snd.fst.snd), (ByteArray.mk #[], (false, (0, (ByteArray.mk #[], ())))))))))), Sh.dflt (.ifc 53 (.agg [.i IntKind.i64, .i IntKind.i64])), (((y24.snd.fst.fst.fst, y24.snd.fst.fst.snd), (y24.snd.fst.snd.fst, ())), ()))
      else obind (parse_parser_word_v n y3.snd.fst.fst.fst y3.snd.fst.fst.snd y3.snd.fst.snd.fst) fun y26 =>
      bif y26.fst then
        some (true, Sh.dflt (.agg [.s, .b, .i IntKind.i64, .s, .s, .sl [Kd.s, Kd.b, Kd.i IntKind.i64, Kd.s], .s, .b, .i IntKind.i64, .s]), (y26.snd.snd.fst.fst, (y26.snd.snd.fst.snd.fst, ())), (((y26.snd.snd.snd.fst.fst.fst, y26.snd.snd.snd.fst.fst.snd), (y26.snd.snd.snd.fst.snd.fst, ())), ()))
      else obind (parse_parser_args_v n y26.snd.snd.snd.fst.fst.fst y26.snd.snd.snd.fst.fst.snd y26.snd.snd.snd.fst.snd.fst) fun y27 =>
      bif y27.fst then
        some (true, Sh.dflt (.agg [.s, .b, .i IntKind.i64, .s, .s, .sl [Kd.s, Kd.b, Kd.i IntKind.i64, Kd.s], .s, .b, .i IntKind.i64, .s]), (y27.snd.snd.fst.fst, (y27.snd.snd.fst.snd.fst, ())), (((y27.snd.snd.snd.fst.fst.fst, y27.snd.snd.snd.fst.fst.snd), (y27.snd.snd.snd.fst.snd.fst, ())), ()))
      else obind (parse_parser_pass_v n (ByteArray.mk #[97, 116]) y27.snd.snd.snd.fst.fst.fst y27.snd.snd.snd.fst.fst.snd y27.snd.snd.snd.fst.snd.fst) fun y28 =>
      bif y28.fst then
        obind (parse_parser_term_v n y28.snd.fst.fst.fst y28.snd.fst.fst.snd y28.snd.fst.snd.fst) fun y29 =>
        bif y29.fst then
          some (true, Sh.dflt (.agg [.s, .b, .i IntKind.i64, .s, .s, .sl [Kd.s, Kd.b, Kd.i IntKind.i64, Kd.s], .s, .b, .i IntKind.i64, .s]), (y29.snd.snd.fst.fst, (y29.snd.snd.fst.snd.fst, ())), (((y29.snd.snd.snd.fst.fst.fst, y29.snd.snd.snd.fst.fst.snd), (y29.snd.snd.snd.fst.snd.fst, ())), ()))
        else some (false, (ByteArray.mk #[], (false, (0, (ByteArray.mk #[], (y26.snd.fst, ((y27.snd.fst.fst, y27.snd.fst.snd), (y29.snd.fst.fst, (y29.snd.fst.snd.fst, (y29.snd.fst.snd.snd.fst, (y29.snd.fst.snd.snd.snd.fst, ())))))))))), Sh.dflt (.ifc 53 (.agg [.i IntKind.i64, .i IntKind.i64])), (((y29.snd.snd.snd.fst.fst.fst, y29.snd.snd.snd.fst.fst.snd), (y29.snd.snd.snd.fst.snd.fst, ())), ()))
      else some (false, (ByteArray.mk #[], (false, (0, (ByteArray.mk #[], (y26.snd.fst, ((y27.snd.fst.fst, y27.snd.fst.snd), (ByteArray.mk #[], (false, (0, (ByteArray.mk #[], ())))))))))), Sh.dflt (.ifc 53 (.agg [.i IntKind.i64, .i IntKind.i64])), (((y28.snd.fst.fst.fst, y28.snd.fst.fst.snd), (y28.snd.fst.snd.fst, ())), ()))
    else none
  else bif y3.fst.fst != 1 then
    obind (parse_parser_term_v n y3.snd.fst.fst.fst y3.snd.fst.fst.snd y3.snd.fst.snd.fst) fun y30 =>
    bif y30.fst then
      some (true, Sh.dflt (.agg [.s, .b, .i IntKind.i64, .s, .s, .sl [Kd.s, Kd.b, Kd.i IntKind.i64, Kd.s], .s, .b, .i IntKind.i64, .s]), (y30.snd.snd.fst.fst, (y30.snd.snd.fst.snd.fst, ())), (((y30.snd.snd.snd.fst.fst.fst, y30.snd.snd.snd.fst.fst.snd), (y30.snd.snd.snd.fst.snd.fst, ())), ()))
    else obind (parse_parser_must_v n (ByteArray.mk #[115, 97, 121, 115]) y30.snd.snd.snd.fst.fst.fst y30.snd.snd.snd.fst.fst.snd y30.snd.snd.snd.fst.snd.fst) fun y31 =>
    bif y31.fst then
      some (true, Sh.dflt (.agg [.s, .b, .i IntKind.i64, .s, .s, .sl [Kd.s, Kd.b, Kd.i IntKind.i64, Kd.s], .s, .b, .i IntKind.i64, .s]), (y31.snd.snd.fst.fst, (y31.snd.snd.fst.snd.fst, ())), (((y31.snd.snd.snd.fst.fst.fst, y31.snd.snd.snd.fst.fst.snd), (y31.snd.snd.snd.fst.snd.fst, ())), ()))
    else obind (parse_parser_word_v n y31.snd.snd.snd.fst.fst.fst y31.snd.snd.snd.fst.fst.snd y31.snd.snd.snd.fst.snd.fst) fun y32 =>
    bif y32.fst then
      some (true, Sh.dflt (.agg [.s, .b, .i IntKind.i64, .s, .s, .sl [Kd.s, Kd.b, Kd.i IntKind.i64, Kd.s], .s, .b, .i IntKind.i64, .s]), (y32.snd.snd.fst.fst, (y32.snd.snd.fst.snd.fst, ())), (((y32.snd.snd.snd.fst.fst.fst, y32.snd.snd.snd.fst.fst.snd), (y32.snd.snd.snd.fst.snd.fst, ())), ()))
    else obind (parse_parser_args_v n y32.snd.snd.snd.fst.fst.fst y32.snd.snd.snd.fst.fst.snd y32.snd.snd.snd.fst.snd.fst) fun y33 =>
    bif y33.fst then
      some (true, Sh.dflt (.agg [.s, .b, .i IntKind.i64, .s, .s, .sl [Kd.s, Kd.b, Kd.i IntKind.i64, Kd.s], .s, .b, .i IntKind.i64, .s]), (y33.snd.snd.fst.fst, (y33.snd.snd.fst.snd.fst, ())), (((y33.snd.snd.snd.fst.fst.fst, y33.snd.snd.snd.fst.fst.snd), (y33.snd.snd.snd.fst.snd.fst, ())), ()))
    else obind (parse_parser_pass_v n (ByteArray.mk #[97, 116]) y33.snd.snd.snd.fst.fst.fst y33.snd.snd.snd.fst.fst.snd y33.snd.snd.snd.fst.snd.fst) fun y34 =>
    bif y34.fst then
      obind (parse_parser_term_v n y34.snd.fst.fst.fst y34.snd.fst.fst.snd y34.snd.fst.snd.fst) fun y35 =>
      bif y35.fst then
        some (true, Sh.dflt (.agg [.s, .b, .i IntKind.i64, .s, .s, .sl [Kd.s, Kd.b, Kd.i IntKind.i64, Kd.s], .s, .b, .i IntKind.i64, .s]), (y35.snd.snd.fst.fst, (y35.snd.snd.fst.snd.fst, ())), (((y35.snd.snd.snd.fst.fst.fst, y35.snd.snd.snd.fst.fst.snd), (y35.snd.snd.snd.fst.snd.fst, ())), ()))
      else some (false, (y30.snd.fst.fst, (y30.snd.fst.snd.fst, (y30.snd.fst.snd.snd.fst, (y30.snd.fst.snd.snd.snd.fst, (y32.snd.fst, ((y33.snd.fst.fst, y33.snd.fst.snd), (y35.snd.fst.fst, (y35.snd.fst.snd.fst, (y35.snd.fst.snd.snd.fst, (y35.snd.fst.snd.snd.snd.fst, ())))))))))), Sh.dflt (.ifc 53 (.agg [.i IntKind.i64, .i IntKind.i64])), (((y35.snd.snd.snd.fst.fst.fst, y35.snd.snd.snd.fst.fst.snd), (y35.snd.snd.snd.fst.snd.fst, ())), ()))
    else some (false, (y30.snd.fst.fst, (y30.snd.fst.snd.fst, (y30.snd.fst.snd.snd.fst, (y30.snd.fst.snd.snd.snd.fst, (y32.snd.fst, ((y33.snd.fst.fst, y33.snd.fst.snd), (ByteArray.mk #[], (false, (0, (ByteArray.mk #[], ())))))))))), Sh.dflt (.ifc 53 (.agg [.i IntKind.i64, .i IntKind.i64])), (((y34.snd.fst.fst.fst, y34.snd.fst.fst.snd), (y34.snd.fst.snd.fst, ())), ()))
  else obind (parse_parser_word_v n y3.snd.fst.fst.fst y3.snd.fst.fst.snd y3.snd.fst.snd.fst) fun y36 =>
  bif y36.fst then
    some (true, Sh.dflt (.agg [.s, .b, .i IntKind.i64, .s, .s, .sl [Kd.s, Kd.b, Kd.i IntKind.i64, Kd.s], .s, .b, .i IntKind.i64, .s]), (y36.snd.snd.fst.fst, (y36.snd.snd.fst.snd.fst, ())), (((y36.snd.snd.snd.fst.fst.fst, y36.snd.snd.snd.fst.fst.snd), (y36.snd.snd.snd.fst.snd.fst, ())), ()))
  else obind (parse_parser_args_v n y36.snd.snd.snd.fst.fst.fst y36.snd.snd.snd.fst.fst.snd y36.snd.snd.snd.fst.snd.fst) fun y37 =>
  bif y37.fst then
    some (true, Sh.dflt (.agg [.s, .b, .i IntKind.i64, .s, .s, .sl [Kd.s, Kd.b, Kd.i IntKind.i64, Kd.s], .s, .b, .i IntKind.i64, .s]), (y37.snd.snd.fst.fst, (y37.snd.snd.fst.snd.fst, ())), (((y37.snd.snd.snd.fst.fst.fst, y37.snd.snd.snd.fst.fst.snd), (y37.snd.snd.snd.fst.snd.fst, ())), ()))
  else obind (parse_parser_pass_v n (ByteArray.mk #[97, 116]) y37.snd.snd.snd.fst.fst.fst y37.snd.snd.snd.fst.fst.snd y37.snd.snd.snd.fst.snd.fst) fun y38 =>
  bif y38.fst then
    obind (parse_parser_term_v n y38.snd.fst.fst.fst y38.snd.fst.fst.snd y38.snd.fst.snd.fst) fun y39 =>
    bif y39.fst then
      some (true, Sh.dflt (.agg [.s, .b, .i IntKind.i64, .s, .s, .sl [Kd.s, Kd.b, Kd.i IntKind.i64, Kd.s], .s, .b, .i IntKind.i64, .s]), (y39.snd.snd.fst.fst, (y39.snd.snd.fst.snd.fst, ())), (((y39.snd.snd.snd.fst.fst.fst, y39.snd.snd.snd.fst.fst.snd), (y39.snd.snd.snd.fst.snd.fst, ())), ()))
    else some (false, (ByteArray.mk #[], (false, (0, (ByteArray.mk #[], (y36.snd.fst, ((y37.snd.fst.fst, y37.snd.fst.snd), (y39.snd.fst.fst, (y39.snd.fst.snd.fst, (y39.snd.fst.snd.snd.fst, (y39.snd.fst.snd.snd.snd.fst, ())))))))))), Sh.dflt (.ifc 53 (.agg [.i IntKind.i64, .i IntKind.i64])), (((y39.snd.snd.snd.fst.fst.fst, y39.snd.snd.snd.fst.fst.snd), (y39.snd.snd.snd.fst.snd.fst, ())), ()))
  else some (false, (ByteArray.mk #[], (false, (0, (ByteArray.mk #[], (y36.snd.fst, ((y37.snd.fst.fst, y37.snd.fst.snd), (ByteArray.mk #[], (false, (0, (ByteArray.mk #[], ())))))))))), Sh.dflt (.ifc 53 (.agg [.i IntKind.i64, .i IntKind.i64])), (((y38.snd.fst.fst.fst, y38.snd.fst.fst.snd), (y38.snd.fst.snd.fst, ())), ())) := by kernel_rfl
theorem parse_parser_literal_c (n : Nat) (b0 : Bool) (r1 : Rows) (j2 : Int) (y : Bool × (ByteArray × Bool × Int × ByteArray × ByteArray × (Bool × Rows) × ByteArray × Bool × Int × ByteArray × Unit) × (Int × Int × Unit) × ((Bool × Rows) × Int × Unit) × Unit) (h : parse_parser_literal_v n b0 r1 j2 = some y) : Contract Try.prog 60 [AV.pl 1000 0] [[AV.sl b0 [Kd.i IntKind.i64, Kd.s, Kd.i IntKind.i64, Kd.i IntKind.i64] r1 Right.no, AV.dv (DV.val (Value.int IntKind.i64 j2))]] (OSh.enc (OSh.pan (.agg [.s, .b, .i IntKind.i64, .s, .s, .sl [Kd.s, Kd.b, Kd.i IntKind.i64, Kd.s], .s, .b, .i IntKind.i64, .s]) (.ifc 53 (.agg [.i IntKind.i64, .i IntKind.i64])) [[.sl [Kd.i IntKind.i64, Kd.s, Kd.i IntKind.i64, Kd.i IntKind.i64], .i IntKind.i64]]) y) :=
  auto_okM tm_std (with_ok mixed (by kernel_rfl) (parse_parser_literal_σok n) n 0 []) (with_pick mixed (by kernel_rfl) (parse_parser_literal_σok n) n 0 []) mixed Try.func60 (by decide) (o := (OSh.pan (.agg [.s, .b, .i IntKind.i64, .s, .s, .sl [Kd.s, Kd.b, Kd.i IntKind.i64, Kd.s], .s, .b, .i IntKind.i64, .s]) (.ifc 53 (.agg [.i IntKind.i64, .i IntKind.i64])) [[.sl [Kd.i IntKind.i64, Kd.s, Kd.i IntKind.i64, Kd.i IntKind.i64], .i IntKind.i64]])) h
/-! parse_parser_rule: function 37 -/
def parse_parser_rule_lv : Live := [(8, [0, 2, 3], [2, 3, 1000, 1001, 1002, 1003])]
noncomputable def parse_parser_rule_σ (n : Nat) : Spec := (inst 55 [.pl 1000 0] [[.sl [Kd.i IntKind.i64, Kd.s, Kd.i IntKind.i64, Kd.i IntKind.i64], .i IntKind.i64]] (OSh.pan (.agg [.s, .b, .i IntKind.i64, .s]) (.ifc 53 (.agg [.i IntKind.i64, .i IntKind.i64])) [[.sl [Kd.i IntKind.i64, Kd.s, Kd.i IntKind.i64, Kd.i IntKind.i64], .i IntKind.i64]]) (fun x e => parse_parser_term_v n e.1.1.1 e.1.1.2 e.1.2.1) (inst 56 [.pl 1000 0, .s] [[.sl [Kd.i IntKind.i64, Kd.s, Kd.i IntKind.i64, Kd.i IntKind.i64], .i IntKind.i64]] (OSh.pan (.tup []) (.ifc 53 (.agg [.i IntKind.i64, .i IntKind.i64])) [[.sl [Kd.i IntKind.i64, Kd.s, Kd.i IntKind.i64, Kd.i IntKind.i64], .i IntKind.i64]]) (fun x e => parse_parser_must_v n x.2.1 e.1.1.1 e.1.1.2 e.1.2.1) (inst 57 [.pl 1000 0] [[.sl [Kd.i IntKind.i64, Kd.s, Kd.i IntKind.i64, Kd.i IntKind.i64], .i IntKind.i64]] (OSh.pan (.s) (.ifc 53 (.agg [.i IntKind.i64, .i IntKind.i64])) [[.sl [Kd.i IntKind.i64, Kd.s, Kd.i IntKind.i64, Kd.i IntKind.i64], .i IntKind.i64]]) (fun x e => parse_parser_word_v n e.1.1.1 e.1.1.2 e.1.2.1) (inst 58 [.pl 1000 0] [[.sl [Kd.i IntKind.i64, Kd.s, Kd.i IntKind.i64, Kd.i IntKind.i64], .i IntKind.i64]] (OSh.pan (.slt [Kd.s, Kd.b, Kd.i IntKind.i64, Kd.s] 0) (.ifc 53 (.agg [.i IntKind.i64, .i IntKind.i64])) [[.sl [Kd.i IntKind.i64, Kd.s, Kd.i IntKind.i64, Kd.i IntKind.i64], .i IntKind.i64]]) (fun x e => parse_parser_args_v n e.1.1.1 e.1.1.2 e.1.2.1) (inst 59 [.pl 1000 0, .s] [[.sl [Kd.i IntKind.i64, Kd.s, Kd.i IntKind.i64, Kd.i IntKind.i64], .i IntKind.i64]] (OSh.plain (.b) [[.sl [Kd.i IntKind.i64, Kd.s, Kd.i IntKind.i64, Kd.i IntKind.i64], .i IntKind.i64]]) (fun x e => parse_parser_pass_v n x.2.1 e.1.1.1 e.1.1.2 e.1.2.1) (inst 35 [.pl 1000 0] [[.sl [Kd.i IntKind.i64, Kd.s, Kd.i IntKind.i64, Kd.i IntKind.i64], .i IntKind.i64]] (OSh.plain (.b) [[.sl [Kd.i IntKind.i64, Kd.s, Kd.i IntKind.i64, Kd.i IntKind.i64], .i IntKind.i64]]) (fun x e => parse_parser_begins_v n e.1.1.1 e.1.1.2 e.1.2.1) (inst 60 [.pl 1000 0] [[.sl [Kd.i IntKind.i64, Kd.s, Kd.i IntKind.i64, Kd.i IntKind.i64], .i IntKind.i64]] (OSh.pan (.agg [.s, .b, .i IntKind.i64, .s, .s, .sl [Kd.s, Kd.b, Kd.i IntKind.i64, Kd.s], .s, .b, .i IntKind.i64, .s]) (.ifc 53 (.agg [.i IntKind.i64, .i IntKind.i64])) [[.sl [Kd.i IntKind.i64, Kd.s, Kd.i IntKind.i64, Kd.i IntKind.i64], .i IntKind.i64]]) (fun x e => parse_parser_literal_v n e.1.1.1 e.1.1.2 e.1.2.1) (inst 36 [.pl 1000 0, .i IntKind.i64] [[.sl [Kd.i IntKind.i64, Kd.s, Kd.i IntKind.i64, Kd.i IntKind.i64], .i IntKind.i64]] (OSh.pan (.junk) (.ifc 53 (.agg [.i IntKind.i64, .i IntKind.i64])) [[.sl [Kd.i IntKind.i64, Kd.s, Kd.i IntKind.i64, Kd.i IntKind.i64], .i IntKind.i64]]) (fun x e => parse_parser_fail_v n x.2.1 e.1.1.1 e.1.1.2 e.1.2.1) Spec.none))))))))
theorem parse_parser_rule_σok (n : Nat) : SpecOk Try.prog (parse_parser_rule_σ n) := (inst_ok (fun x e y h => parse_parser_term_c n e.1.1.1 e.1.1.2 e.1.2.1 y h) (inst_ok (fun x e y h => parse_parser_must_c n x.2.1 e.1.1.1 e.1.1.2 e.1.2.1 y h) (inst_ok (fun x e y h => parse_parser_word_c n e.1.1.1 e.1.1.2 e.1.2.1 y h) (inst_ok (fun x e y h => parse_parser_args_c n e.1.1.1 e.1.1.2 e.1.2.1 y h) (inst_ok (fun x e y h => parse_parser_pass_c n x.2.1 e.1.1.1 e.1.1.2 e.1.2.1 y h) (inst_ok (fun x e y h => parse_parser_begins_c n e.1.1.1 e.1.1.2 e.1.2.1 y h) (inst_ok (fun x e y h => parse_parser_literal_c n e.1.1.1 e.1.1.2 e.1.2.1 y h) (inst_ok (fun x e y h => parse_parser_fail_c n x.2.1 e.1.1.1 e.1.1.2 e.1.2.1 y h) (SpecOk.none _)))))))))
noncomputable def parse_parser_rule_Φ (n : Nat) : Orc := with_ Try.prog (parse_parser_rule_σ n) [] n 0 []
noncomputable def parse_parser_rule_v (n : Nat) (b0 : Bool) (r1 : Rows) (j2 : Int) : Option (Bool × (ByteArray × Bool × Int × ByteArray × ByteArray × (Bool × Rows) × ByteArray × Bool × Int × ByteArray × (Bool × Rows) × Unit) × (Int × Int × Unit) × ((Bool × Rows) × Int × Unit) × Unit) :=
  DM.denFn tm (parse_parser_rule_Φ n) parse_parser_rule_lv n Try.f37 false [AV.pl 1000 0] [[AV.sl b0 [Kd.i IntKind.i64, Kd.s, Kd.i IntKind.i64, Kd.i IntKind.i64] r1 Right.no, AV.dv (DV.val (Value.int IntKind.i64 j2))]] (OSh.chk (OSh.pan (.agg [.s, .b, .i IntKind.i64, .s, .s, .sl [Kd.s, Kd.b, Kd.i IntKind.i64, Kd.s], .s, .b, .i IntKind.i64, .s, .sl [Kd.s, Kd.b, Kd.i IntKind.i64, Kd.s, Kd.s, Kd.sl [Kd.s, Kd.b, Kd.i IntKind.i64, Kd.s], Kd.s, Kd.b, Kd.i IntKind.i64, Kd.s]]) (.ifc 53 (.agg [.i IntKind.i64, .i IntKind.i64])) [[.sl [Kd.i IntKind.i64, Kd.s, Kd.i IntKind.i64, Kd.i IntKind.i64], .i IntKind.i64]]))
noncomputable def parse_parser_rule_l8 (n : Nat) (b0 : Bool) (r1 : Rows) (j2 : Int) (i0 : Nat) (b11 : Bool) (r12 : List (List DV)) (j13 : Int) (s14 : ByteArray) (b15 : Bool) (j16 : Int) (s17 : ByteArray) (s18 : ByteArray) (b19 : Bool) (r20 : List (List DV)) (s21 : ByteArray) (b22 : Bool) (j23 : Int) (s24 : ByteArray) (b32 : Bool) (r33 : List (List DV)) : Option (Bool × (ByteArray × Bool × Int × ByteArray × ByteArray × (Bool × Rows) × ByteArray × Bool × Int × ByteArray × (Bool × Rows) × Unit) × (Int × Int × Unit) × ((Bool × Rows) × Int × Unit) × Unit) :=
  DM.loopFn tm (parse_parser_rule_Φ n) parse_parser_rule_lv n Try.f37 false [[AV.sl b0 [Kd.i IntKind.i64, Kd.s, Kd.i IntKind.i64, Kd.i IntKind.i64] r1 Right.no, AV.dv (DV.val (Value.int IntKind.i64 j2))]] (OSh.chk (OSh.pan (.agg [.s, .b, .i IntKind.i64, .s, .s, .sl [Kd.s, Kd.b, Kd.i IntKind.i64, Kd.s], .s, .b, .i IntKind.i64, .s, .sl [Kd.s, Kd.b, Kd.i IntKind.i64, Kd.s, Kd.s, Kd.sl [Kd.s, Kd.b, Kd.i IntKind.i64, Kd.s], Kd.s, Kd.b, Kd.i IntKind.i64, Kd.s]]) (.ifc 53 (.agg [.i IntKind.i64, .i IntKind.i64])) [[.sl [Kd.i IntKind.i64, Kd.s, Kd.i IntKind.i64, Kd.i IntKind.i64], .i IntKind.i64]])) 8 [] i0 (St.mk [AV.pl 1000 0, AV.junk, AV.pl 2 0, AV.pl 3 0, AV.junk, AV.junk, AV.junk, AV.junk, AV.junk, AV.junk, AV.junk, AV.junk, AV.junk, AV.junk, AV.junk, AV.junk, AV.junk, AV.junk, AV.junk, AV.junk, AV.junk, AV.junk, AV.junk, AV.junk, AV.junk, AV.junk, AV.junk, AV.junk, AV.junk, AV.junk, AV.junk, AV.junk, AV.junk, AV.junk, AV.junk, AV.junk, AV.junk, AV.junk, AV.junk, AV.junk, AV.junk, AV.junk, AV.junk, AV.junk] [(1000, [AV.sl b11 [Kd.i IntKind.i64, Kd.s, Kd.i IntKind.i64, Kd.i IntKind.i64] r12 Right.no, AV.dv (DV.val (Value.int IntKind.i64 j13))]), (2, [AV.dv (DV.val (Value.string (ByteArray.mk #[]))), AV.dv (DV.val (Value.bool false)), AV.dv (DV.val (Value.int IntKind.i64 0)), AV.dv (DV.val (Value.string (ByteArray.mk #[]))), AV.dv (DV.val (Value.string (ByteArray.mk #[]))), AV.sl true [Kd.s, Kd.b, Kd.i IntKind.i64, Kd.s] [] (Right.tok 20133), AV.dv (DV.val (Value.string (ByteArray.mk #[]))), AV.dv (DV.val (Value.bool false)), AV.dv (DV.val (Value.int IntKind.i64 0)), AV.dv (DV.val (Value.string (ByteArray.mk #[]))), AV.sl true [Kd.s, Kd.b, Kd.i IntKind.i64, Kd.s, Kd.s, Kd.sl [Kd.s, Kd.b, Kd.i IntKind.i64, Kd.s], Kd.s, Kd.b, Kd.i IntKind.i64, Kd.s] [] (Right.tok 20138)]), (3, [AV.dv (DV.val (Value.string s14)), AV.dv (DV.val (Value.bool b15)), AV.dv (DV.val (Value.int IntKind.i64 j16)), AV.dv (DV.val (Value.string s17)), AV.dv (DV.val (Value.string s18)), AV.sl b19 [Kd.s, Kd.b, Kd.i IntKind.i64, Kd.s] r20 (Right.tok 20197), AV.dv (DV.val (Value.string s21)), AV.dv (DV.val (Value.bool b22)), AV.dv (DV.val (Value.int IntKind.i64 j23)), AV.dv (DV.val (Value.string s24)), AV.sl b32 [Kd.s, Kd.b, Kd.i IntKind.i64, Kd.s, Kd.s, Kd.sl [Kd.s, Kd.b, Kd.i IntKind.i64, Kd.s], Kd.s, Kd.b, Kd.i IntKind.i64, Kd.s] r33 (Right.tok 20202)])])
theorem parse_parser_rule_s8 (n : Nat) (b0 : Bool) (r1 : Rows) (j2 : Int) (i0 : Nat) (b11 : Bool) (r12 : List (List DV)) (j13 : Int) (s14 : ByteArray) (b15 : Bool) (j16 : Int) (s17 : ByteArray) (s18 : ByteArray) (b19 : Bool) (r20 : List (List DV)) (s21 : ByteArray) (b22 : Bool) (j23 : Int) (s24 : ByteArray) (b32 : Bool) (r33 : List (List DV)) : parse_parser_rule_l8 n b0 r1 j2 (i0 + 1) b11 r12 j13 s14 b15 j16 s17 s18 b19 r20 s21 b22 j23 s24 b32 r33 =
  obind (parse_parser_begins_v n b11 r12 j13) fun y34 =>
  bif y34.fst then
    bif (↑(List.length r33) : Int) == 4 then
      obind (parse_parser_fail_v n 81 y34.snd.fst.fst.fst y34.snd.fst.fst.snd y34.snd.fst.snd.fst) fun y35 =>
      bif y35.fst then
        some (true, Sh.dflt (.agg [.s, .b, .i IntKind.i64, .s, .s, .sl [Kd.s, Kd.b, Kd.i IntKind.i64, Kd.s], .s, .b, .i IntKind.i64, .s, .sl [Kd.s, Kd.b, Kd.i IntKind.i64, Kd.s, Kd.s, Kd.sl [Kd.s, Kd.b, Kd.i IntKind.i64, Kd.s], Kd.s, Kd.b, Kd.i IntKind.i64, Kd.s]]), (y35.snd.snd.fst.fst, (y35.snd.snd.fst.snd.fst, ())), (((y35.snd.snd.snd.fst.fst.fst, y35.snd.snd.snd.fst.fst.snd), (y35.snd.snd.snd.fst.snd.fst, ())), ()))
      else obind (parse_parser_literal_v n y35.snd.snd.snd.fst.fst.fst y35.snd.snd.snd.fst.fst.snd y35.snd.snd.snd.fst.snd.fst) fun y36 =>
      bif y36.fst then
        some (true, Sh.dflt (.agg [.s, .b, .i IntKind.i64, .s, .s, .sl [Kd.s, Kd.b, Kd.i IntKind.i64, Kd.s], .s, .b, .i IntKind.i64, .s, .sl [Kd.s, Kd.b, Kd.i IntKind.i64, Kd.s, Kd.s, Kd.sl [Kd.s, Kd.b, Kd.i IntKind.i64, Kd.s], Kd.s, Kd.b, Kd.i IntKind.i64, Kd.s]]), (y36.snd.snd.fst.fst, (y36.snd.snd.fst.snd.fst, ())), (((y36.snd.snd.snd.fst.fst.fst, y36.snd.snd.snd.fst.fst.snd), (y36.snd.snd.snd.fst.snd.fst, ())), ()))
      else if (List.length r33 + List.length [[DV.val (Value.string y36.snd.fst.fst), DV.val (Value.bool y36.snd.fst.snd.fst), DV.val (Value.int IntKind.i64 y36.snd.fst.snd.snd.fst), DV.val (Value.string y36.snd.fst.snd.snd.snd.fst), DV.val (Value.string y36.snd.fst.snd.snd.snd.snd.fst), DV.sl y36.snd.fst.snd.snd.snd.snd.snd.fst.fst [Kd.s, Kd.b, Kd.i IntKind.i64, Kd.s] y36.snd.fst.snd.snd.snd.snd.snd.fst.snd, DV.val (Value.string y36.snd.fst.snd.snd.snd.snd.snd.snd.fst), DV.val (Value.bool y36.snd.fst.snd.snd.snd.snd.snd.snd.snd.fst), DV.val (Value.int IntKind.i64 y36.snd.fst.snd.snd.snd.snd.snd.snd.snd.snd.fst), DV.val (Value.string y36.snd.fst.snd.snd.snd.snd.snd.snd.snd.snd.snd.fst)]]) * 136 ≤ 140737488355328 then
        obind (parse_parser_pass_v n (ByteArray.mk #[46]) y36.snd.snd.snd.fst.fst.fst y36.snd.snd.snd.fst.fst.snd y36.snd.snd.snd.fst.snd.fst) fun y37 =>
        bif y37.fst then
          some (false, (s14, (b15, (j16, (s17, (s18, ((b19, r20), (s21, (b22, (j23, (s24, ((b32 && List.isEmpty [[DV.val (Value.string y36.snd.fst.fst), DV.val (Value.bool y36.snd.fst.snd.fst), DV.val (Value.int IntKind.i64 y36.snd.fst.snd.snd.fst), DV.val (Value.string y36.snd.fst.snd.snd.snd.fst), DV.val (Value.string y36.snd.fst.snd.snd.snd.snd.fst), DV.sl y36.snd.fst.snd.snd.snd.snd.snd.fst.fst [Kd.s, Kd.b, Kd.i IntKind.i64, Kd.s] y36.snd.fst.snd.snd.snd.snd.snd.fst.snd, DV.val (Value.string y36.snd.fst.snd.snd.snd.snd.snd.snd.fst), DV.val (Value.bool y36.snd.fst.snd.snd.snd.snd.snd.snd.snd.fst), DV.val (Value.int IntKind.i64 y36.snd.fst.snd.snd.snd.snd.snd.snd.snd.snd.fst), DV.val (Value.string y36.snd.fst.snd.snd.snd.snd.snd.snd.snd.snd.snd.fst)]], appX r33 [[DV.val (Value.string y36.snd.fst.fst), DV.val (Value.bool y36.snd.fst.snd.fst), DV.val (Value.int IntKind.i64 y36.snd.fst.snd.snd.fst), DV.val (Value.string y36.snd.fst.snd.snd.snd.fst), DV.val (Value.string y36.snd.fst.snd.snd.snd.snd.fst), DV.sl y36.snd.fst.snd.snd.snd.snd.snd.fst.fst [Kd.s, Kd.b, Kd.i IntKind.i64, Kd.s] y36.snd.fst.snd.snd.snd.snd.snd.fst.snd, DV.val (Value.string y36.snd.fst.snd.snd.snd.snd.snd.snd.fst), DV.val (Value.bool y36.snd.fst.snd.snd.snd.snd.snd.snd.snd.fst), DV.val (Value.int IntKind.i64 y36.snd.fst.snd.snd.snd.snd.snd.snd.snd.snd.fst), DV.val (Value.string y36.snd.fst.snd.snd.snd.snd.snd.snd.snd.snd.snd.fst)]]), ()))))))))))), Sh.dflt (.ifc 53 (.agg [.i IntKind.i64, .i IntKind.i64])), (((y37.snd.fst.fst.fst, y37.snd.fst.fst.snd), (y37.snd.fst.snd.fst, ())), ()))
        else obind (parse_parser_must_v n (ByteArray.mk #[44]) y37.snd.fst.fst.fst y37.snd.fst.fst.snd y37.snd.fst.snd.fst) fun y38 =>
        bif y38.fst then
          some (true, Sh.dflt (.agg [.s, .b, .i IntKind.i64, .s, .s, .sl [Kd.s, Kd.b, Kd.i IntKind.i64, Kd.s], .s, .b, .i IntKind.i64, .s, .sl [Kd.s, Kd.b, Kd.i IntKind.i64, Kd.s, Kd.s, Kd.sl [Kd.s, Kd.b, Kd.i IntKind.i64, Kd.s], Kd.s, Kd.b, Kd.i IntKind.i64, Kd.s]]), (y38.snd.snd.fst.fst, (y38.snd.snd.fst.snd.fst, ())), (((y38.snd.snd.snd.fst.fst.fst, y38.snd.snd.snd.fst.fst.snd), (y38.snd.snd.snd.fst.snd.fst, ())), ()))
        else parse_parser_rule_l8 n b0 r1 j2 i0 y38.snd.snd.snd.fst.fst.fst y38.snd.snd.snd.fst.fst.snd y38.snd.snd.snd.fst.snd.fst s14 b15 j16 s17 s18 b19 r20 s21 b22 j23 s24 (b32 && List.isEmpty [[DV.val (Value.string y36.snd.fst.fst), DV.val (Value.bool y36.snd.fst.snd.fst), DV.val (Value.int IntKind.i64 y36.snd.fst.snd.snd.fst), DV.val (Value.string y36.snd.fst.snd.snd.snd.fst), DV.val (Value.string y36.snd.fst.snd.snd.snd.snd.fst), DV.sl y36.snd.fst.snd.snd.snd.snd.snd.fst.fst [Kd.s, Kd.b, Kd.i IntKind.i64, Kd.s] y36.snd.fst.snd.snd.snd.snd.snd.fst.snd, DV.val (Value.string y36.snd.fst.snd.snd.snd.snd.snd.snd.fst), DV.val (Value.bool y36.snd.fst.snd.snd.snd.snd.snd.snd.snd.fst), DV.val (Value.int IntKind.i64 y36.snd.fst.snd.snd.snd.snd.snd.snd.snd.snd.fst), DV.val (Value.string y36.snd.fst.snd.snd.snd.snd.snd.snd.snd.snd.snd.fst)]]) (appX r33 [[DV.val (Value.string y36.snd.fst.fst), DV.val (Value.bool y36.snd.fst.snd.fst), DV.val (Value.int IntKind.i64 y36.snd.fst.snd.snd.fst), DV.val (Value.string y36.snd.fst.snd.snd.snd.fst), DV.val (Value.string y36.snd.fst.snd.snd.snd.snd.fst), DV.sl y36.snd.fst.snd.snd.snd.snd.snd.fst.fst [Kd.s, Kd.b, Kd.i IntKind.i64, Kd.s] y36.snd.fst.snd.snd.snd.snd.snd.fst.snd, DV.val (Value.string y36.snd.fst.snd.snd.snd.snd.snd.snd.fst), DV.val (Value.bool y36.snd.fst.snd.snd.snd.snd.snd.snd.snd.fst), DV.val (Value.int IntKind.i64 y36.snd.fst.snd.snd.snd.snd.snd.snd.snd.snd.fst), DV.val (Value.string y36.snd.fst.snd.snd.snd.snd.snd.snd.snd.snd.snd.fst)]])
      else none
    else obind (parse_parser_literal_v n y34.snd.fst.fst.fst y34.snd.fst.fst.snd y34.snd.fst.snd.fst) fun y39 =>
    bif y39.fst then
      some (true, Sh.dflt (.agg [.s, .b, .i IntKind.i64, .s, .s, .sl [Kd.s, Kd.b, Kd.i IntKind.i64, Kd.s], .s, .b, .i IntKind.i64, .s, .sl [Kd.s, Kd.b, Kd.i IntKind.i64, Kd.s, Kd.s, Kd.sl [Kd.s, Kd.b, Kd.i IntKind.i64, Kd.s], Kd.s, Kd.b, Kd.i IntKind.i64, Kd.s]]), (y39.snd.snd.fst.fst, (y39.snd.snd.fst.snd.fst, ())), (((y39.snd.snd.snd.fst.fst.fst, y39.snd.snd.snd.fst.fst.snd), (y39.snd.snd.snd.fst.snd.fst, ())), ()))
    else if (List.length r33 + List.length [[DV.val (Value.string y39.snd.fst.fst), DV.val (Value.bool y39.snd.fst.snd.fst), DV.val (Value.int IntKind.i64 y39.snd.fst.snd.snd.fst), DV.val (Value.string y39.snd.fst.snd.snd.snd.fst), DV.val (Value.string y39.snd.fst.snd.snd.snd.snd.fst), DV.sl y39.snd.fst.snd.snd.snd.snd.snd.fst.fst [Kd.s, Kd.b, Kd.i IntKind.i64, Kd.s] y39.snd.fst.snd.snd.snd.snd.snd.fst.snd, DV.val (Value.string y39.snd.fst.snd.snd.snd.snd.snd.snd.fst), DV.val (Value.bool y39.snd.fst.snd.snd.snd.snd.snd.snd.snd.fst), DV.val (Value.int IntKind.i64 y39.snd.fst.snd.snd.snd.snd.snd.snd.snd.snd.fst), DV.val (Value.string y39.snd.fst.snd.snd.snd.snd.snd.snd.snd.snd.snd.fst)]]) * 136 ≤ 140737488355328 then
      obind (parse_parser_pass_v n (ByteArray.mk #[46]) y39.snd.snd.snd.fst.fst.fst y39.snd.snd.snd.fst.fst.snd y39.snd.snd.snd.fst.snd.fst) fun y40 =>
      bif y40.fst then
        some (false, (s14, (b15, (j16, (s17, (s18, ((b19, r20), (s21, (b22, (j23, (s24, ((b32 && List.isEmpty [[DV.val (Value.string y39.snd.fst.fst), DV.val (Value.bool y39.snd.fst.snd.fst), DV.val (Value.int IntKind.i64 y39.snd.fst.snd.snd.fst), DV.val (Value.string y39.snd.fst.snd.snd.snd.fst), DV.val (Value.string y39.snd.fst.snd.snd.snd.snd.fst), DV.sl y39.snd.fst.snd.snd.snd.snd.snd.fst.fst [Kd.s, Kd.b, Kd.i IntKind.i64, Kd.s] y39.snd.fst.snd.snd.snd.snd.snd.fst.snd, DV.val (Value.string y39.snd.fst.snd.snd.snd.snd.snd.snd.fst), DV.val (Value.bool y39.snd.fst.snd.snd.snd.snd.snd.snd.snd.fst), DV.val (Value.int IntKind.i64 y39.snd.fst.snd.snd.snd.snd.snd.snd.snd.snd.fst), DV.val (Value.string y39.snd.fst.snd.snd.snd.snd.snd.snd.snd.snd.snd.fst)]], appX r33 [[DV.val (Value.string y39.snd.fst.fst), DV.val (Value.bool y39.snd.fst.snd.fst), DV.val (Value.int IntKind.i64 y39.snd.fst.snd.snd.fst), DV.val (Value.string y39.snd.fst.snd.snd.snd.fst), DV.val (Value.string y39.snd.fst.snd.snd.snd.snd.fst), DV.sl y39.snd.fst.snd.snd.snd.snd.snd.fst.fst [Kd.s, Kd.b, Kd.i IntKind.i64, Kd.s] y39.snd.fst.snd.snd.snd.snd.snd.fst.snd, DV.val (Value.string y39.snd.fst.snd.snd.snd.snd.snd.snd.fst), DV.val (Value.bool y39.snd.fst.snd.snd.snd.snd.snd.snd.snd.fst), DV.val (Value.int IntKind.i64 y39.snd.fst.snd.snd.snd.snd.snd.snd.snd.snd.fst), DV.val (Value.string y39.snd.fst.snd.snd.snd.snd.snd.snd.snd.snd.snd.fst)]]), ()))))))))))), Sh.dflt (.ifc 53 (.agg [.i IntKind.i64, .i IntKind.i64])), (((y40.snd.fst.fst.fst, y40.snd.fst.fst.snd), (y40.snd.fst.snd.fst, ())), ()))
      else obind (parse_parser_must_v n (ByteArray.mk #[44]) y40.snd.fst.fst.fst y40.snd.fst.fst.snd y40.snd.fst.snd.fst) fun y41 =>
      bif y41.fst then
        some (true, Sh.dflt (.agg [.s, .b, .i IntKind.i64, .s, .s, .sl [Kd.s, Kd.b, Kd.i IntKind.i64, Kd.s], .s, .b, .i IntKind.i64, .s, .sl [Kd.s, Kd.b, Kd.i IntKind.i64, Kd.s, Kd.s, Kd.sl [Kd.s, Kd.b, Kd.i IntKind.i64, Kd.s], Kd.s, Kd.b, Kd.i IntKind.i64, Kd.s]]), (y41.snd.snd.fst.fst, (y41.snd.snd.fst.snd.fst, ())), (((y41.snd.snd.snd.fst.fst.fst, y41.snd.snd.snd.fst.fst.snd), (y41.snd.snd.snd.fst.snd.fst, ())), ()))
      else parse_parser_rule_l8 n b0 r1 j2 i0 y41.snd.snd.snd.fst.fst.fst y41.snd.snd.snd.fst.fst.snd y41.snd.snd.snd.fst.snd.fst s14 b15 j16 s17 s18 b19 r20 s21 b22 j23 s24 (b32 && List.isEmpty [[DV.val (Value.string y39.snd.fst.fst), DV.val (Value.bool y39.snd.fst.snd.fst), DV.val (Value.int IntKind.i64 y39.snd.fst.snd.snd.fst), DV.val (Value.string y39.snd.fst.snd.snd.snd.fst), DV.val (Value.string y39.snd.fst.snd.snd.snd.snd.fst), DV.sl y39.snd.fst.snd.snd.snd.snd.snd.fst.fst [Kd.s, Kd.b, Kd.i IntKind.i64, Kd.s] y39.snd.fst.snd.snd.snd.snd.snd.fst.snd, DV.val (Value.string y39.snd.fst.snd.snd.snd.snd.snd.snd.fst), DV.val (Value.bool y39.snd.fst.snd.snd.snd.snd.snd.snd.snd.fst), DV.val (Value.int IntKind.i64 y39.snd.fst.snd.snd.snd.snd.snd.snd.snd.snd.fst), DV.val (Value.string y39.snd.fst.snd.snd.snd.snd.snd.snd.snd.snd.snd.fst)]]) (appX r33 [[DV.val (Value.string y39.snd.fst.fst), DV.val (Value.bool y39.snd.fst.snd.fst), DV.val (Value.int IntKind.i64 y39.snd.fst.snd.snd.fst), DV.val (Value.string y39.snd.fst.snd.snd.snd.fst), DV.val (Value.string y39.snd.fst.snd.snd.snd.snd.fst), DV.sl y39.snd.fst.snd.snd.snd.snd.snd.fst.fst [Kd.s, Kd.b, Kd.i IntKind.i64, Kd.s] y39.snd.fst.snd.snd.snd.snd.snd.fst.snd, DV.val (Value.string y39.snd.fst.snd.snd.snd.snd.snd.snd.fst), DV.val (Value.bool y39.snd.fst.snd.snd.snd.snd.snd.snd.snd.fst), DV.val (Value.int IntKind.i64 y39.snd.fst.snd.snd.snd.snd.snd.snd.snd.snd.fst), DV.val (Value.string y39.snd.fst.snd.snd.snd.snd.snd.snd.snd.snd.snd.fst)]])
    else none
  else obind (parse_parser_literal_v n y34.snd.fst.fst.fst y34.snd.fst.fst.snd y34.snd.fst.snd.fst) fun y42 =>
  bif y42.fst then
    some (true, Sh.dflt (.agg [.s, .b, .i IntKind.i64, .s, .s, .sl [Kd.s, Kd.b, Kd.i IntKind.i64, Kd.s], .s, .b, .i IntKind.i64, .s, .sl [Kd.s, Kd.b, Kd.i IntKind.i64, Kd.s, Kd.s, Kd.sl [Kd.s, Kd.b, Kd.i IntKind.i64, Kd.s], Kd.s, Kd.b, Kd.i IntKind.i64, Kd.s]]), (y42.snd.snd.fst.fst, (y42.snd.snd.fst.snd.fst, ())), (((y42.snd.snd.snd.fst.fst.fst, y42.snd.snd.snd.fst.fst.snd), (y42.snd.snd.snd.fst.snd.fst, ())), ()))
  else if (List.length r33 + List.length [[DV.val (Value.string y42.snd.fst.fst), DV.val (Value.bool y42.snd.fst.snd.fst), DV.val (Value.int IntKind.i64 y42.snd.fst.snd.snd.fst), DV.val (Value.string y42.snd.fst.snd.snd.snd.fst), DV.val (Value.string y42.snd.fst.snd.snd.snd.snd.fst), DV.sl y42.snd.fst.snd.snd.snd.snd.snd.fst.fst [Kd.s, Kd.b, Kd.i IntKind.i64, Kd.s] y42.snd.fst.snd.snd.snd.snd.snd.fst.snd, DV.val (Value.string y42.snd.fst.snd.snd.snd.snd.snd.snd.fst), DV.val (Value.bool y42.snd.fst.snd.snd.snd.snd.snd.snd.snd.fst), DV.val (Value.int IntKind.i64 y42.snd.fst.snd.snd.snd.snd.snd.snd.snd.snd.fst), DV.val (Value.string y42.snd.fst.snd.snd.snd.snd.snd.snd.snd.snd.snd.fst)]]) * 136 ≤ 140737488355328 then
    obind (parse_parser_pass_v n (ByteArray.mk #[46]) y42.snd.snd.snd.fst.fst.fst y42.snd.snd.snd.fst.fst.snd y42.snd.snd.snd.fst.snd.fst) fun y43 =>
    bif y43.fst then
      some (false, (s14, (b15, (j16, (s17, (s18, ((b19, r20), (s21, (b22, (j23, (s24, ((b32 && List.isEmpty [[DV.val (Value.string y42.snd.fst.fst), DV.val (Value.bool y42.snd.fst.snd.fst), DV.val (Value.int IntKind.i64 y42.snd.fst.snd.snd.fst), DV.val (Value.string y42.snd.fst.snd.snd.snd.fst), DV.val (Value.string y42.snd.fst.snd.snd.snd.snd.fst), DV.sl y42.snd.fst.snd.snd.snd.snd.snd.fst.fst [Kd.s, Kd.b, Kd.i IntKind.i64, Kd.s] y42.snd.fst.snd.snd.snd.snd.snd.fst.snd, DV.val (Value.string y42.snd.fst.snd.snd.snd.snd.snd.snd.fst), DV.val (Value.bool y42.snd.fst.snd.snd.snd.snd.snd.snd.snd.fst), DV.val (Value.int IntKind.i64 y42.snd.fst.snd.snd.snd.snd.snd.snd.snd.snd.fst), DV.val (Value.string y42.snd.fst.snd.snd.snd.snd.snd.snd.snd.snd.snd.fst)]], appX r33 [[DV.val (Value.string y42.snd.fst.fst), DV.val (Value.bool y42.snd.fst.snd.fst), DV.val (Value.int IntKind.i64 y42.snd.fst.snd.snd.fst), DV.val (Value.string y42.snd.fst.snd.snd.snd.fst), DV.val (Value.string y42.snd.fst.snd.snd.snd.snd.fst), DV.sl y42.snd.fst.snd.snd.snd.snd.snd.fst.fst [Kd.s, Kd.b, Kd.i IntKind.i64, Kd.s] y42.snd.fst.snd.snd.snd.snd.snd.fst.snd, DV.val (Value.string y42.snd.fst.snd.snd.snd.snd.snd.snd.fst), DV.val (Value.bool y42.snd.fst.snd.snd.snd.snd.snd.snd.snd.fst), DV.val (Value.int IntKind.i64 y42.snd.fst.snd.snd.snd.snd.snd.snd.snd.snd.fst), DV.val (Value.string y42.snd.fst.snd.snd.snd.snd.snd.snd.snd.snd.snd.fst)]]), ()))))))))))), Sh.dflt (.ifc 53 (.agg [.i IntKind.i64, .i IntKind.i64])), (((y43.snd.fst.fst.fst, y43.snd.fst.fst.snd), (y43.snd.fst.snd.fst, ())), ()))
    else obind (parse_parser_must_v n (ByteArray.mk #[44]) y43.snd.fst.fst.fst y43.snd.fst.fst.snd y43.snd.fst.snd.fst) fun y44 =>
    bif y44.fst then
      some (true, Sh.dflt (.agg [.s, .b, .i IntKind.i64, .s, .s, .sl [Kd.s, Kd.b, Kd.i IntKind.i64, Kd.s], .s, .b, .i IntKind.i64, .s, .sl [Kd.s, Kd.b, Kd.i IntKind.i64, Kd.s, Kd.s, Kd.sl [Kd.s, Kd.b, Kd.i IntKind.i64, Kd.s], Kd.s, Kd.b, Kd.i IntKind.i64, Kd.s]]), (y44.snd.snd.fst.fst, (y44.snd.snd.fst.snd.fst, ())), (((y44.snd.snd.snd.fst.fst.fst, y44.snd.snd.snd.fst.fst.snd), (y44.snd.snd.snd.fst.snd.fst, ())), ()))
    else parse_parser_rule_l8 n b0 r1 j2 i0 y44.snd.snd.snd.fst.fst.fst y44.snd.snd.snd.fst.fst.snd y44.snd.snd.snd.fst.snd.fst s14 b15 j16 s17 s18 b19 r20 s21 b22 j23 s24 (b32 && List.isEmpty [[DV.val (Value.string y42.snd.fst.fst), DV.val (Value.bool y42.snd.fst.snd.fst), DV.val (Value.int IntKind.i64 y42.snd.fst.snd.snd.fst), DV.val (Value.string y42.snd.fst.snd.snd.snd.fst), DV.val (Value.string y42.snd.fst.snd.snd.snd.snd.fst), DV.sl y42.snd.fst.snd.snd.snd.snd.snd.fst.fst [Kd.s, Kd.b, Kd.i IntKind.i64, Kd.s] y42.snd.fst.snd.snd.snd.snd.snd.fst.snd, DV.val (Value.string y42.snd.fst.snd.snd.snd.snd.snd.snd.fst), DV.val (Value.bool y42.snd.fst.snd.snd.snd.snd.snd.snd.snd.fst), DV.val (Value.int IntKind.i64 y42.snd.fst.snd.snd.snd.snd.snd.snd.snd.snd.fst), DV.val (Value.string y42.snd.fst.snd.snd.snd.snd.snd.snd.snd.snd.snd.fst)]]) (appX r33 [[DV.val (Value.string y42.snd.fst.fst), DV.val (Value.bool y42.snd.fst.snd.fst), DV.val (Value.int IntKind.i64 y42.snd.fst.snd.snd.fst), DV.val (Value.string y42.snd.fst.snd.snd.snd.fst), DV.val (Value.string y42.snd.fst.snd.snd.snd.snd.fst), DV.sl y42.snd.fst.snd.snd.snd.snd.snd.fst.fst [Kd.s, Kd.b, Kd.i IntKind.i64, Kd.s] y42.snd.fst.snd.snd.snd.snd.snd.fst.snd, DV.val (Value.string y42.snd.fst.snd.snd.snd.snd.snd.snd.fst), DV.val (Value.bool y42.snd.fst.snd.snd.snd.snd.snd.snd.snd.fst), DV.val (Value.int IntKind.i64 y42.snd.fst.snd.snd.snd.snd.snd.snd.snd.snd.fst), DV.val (Value.string y42.snd.fst.snd.snd.snd.snd.snd.snd.snd.snd.snd.fst)]])
  else none := by kernel_rfl
theorem parse_parser_rule_e (n : Nat) (b0 : Bool) (r1 : Rows) (j2 : Int) : parse_parser_rule_v n b0 r1 j2 =
  obind (parse_parser_term_v n b0 r1 j2) fun y3 =>
  bif y3.fst then
    some (true, Sh.dflt (.agg [.s, .b, .i IntKind.i64, .s, .s, .sl [Kd.s, Kd.b, Kd.i IntKind.i64, Kd.s], .s, .b, .i IntKind.i64, .s, .sl [Kd.s, Kd.b, Kd.i IntKind.i64, Kd.s, Kd.s, Kd.sl [Kd.s, Kd.b, Kd.i IntKind.i64, Kd.s], Kd.s, Kd.b, Kd.i IntKind.i64, Kd.s]]), (y3.snd.snd.fst.fst, (y3.snd.snd.fst.snd.fst, ())), (((y3.snd.snd.snd.fst.fst.fst, y3.snd.snd.snd.fst.fst.snd), (y3.snd.snd.snd.fst.snd.fst, ())), ()))
  else obind (parse_parser_must_v n (ByteArray.mk #[58]) y3.snd.snd.snd.fst.fst.fst y3.snd.snd.snd.fst.fst.snd y3.snd.snd.snd.fst.snd.fst) fun y4 =>
  bif y4.fst then
    some (true, Sh.dflt (.agg [.s, .b, .i IntKind.i64, .s, .s, .sl [Kd.s, Kd.b, Kd.i IntKind.i64, Kd.s], .s, .b, .i IntKind.i64, .s, .sl [Kd.s, Kd.b, Kd.i IntKind.i64, Kd.s, Kd.s, Kd.sl [Kd.s, Kd.b, Kd.i IntKind.i64, Kd.s], Kd.s, Kd.b, Kd.i IntKind.i64, Kd.s]]), (y4.snd.snd.fst.fst, (y4.snd.snd.fst.snd.fst, ())), (((y4.snd.snd.snd.fst.fst.fst, y4.snd.snd.snd.fst.fst.snd), (y4.snd.snd.snd.fst.snd.fst, ())), ()))
  else obind (parse_parser_word_v n y4.snd.snd.snd.fst.fst.fst y4.snd.snd.snd.fst.fst.snd y4.snd.snd.snd.fst.snd.fst) fun y5 =>
  bif y5.fst then
    some (true, Sh.dflt (.agg [.s, .b, .i IntKind.i64, .s, .s, .sl [Kd.s, Kd.b, Kd.i IntKind.i64, Kd.s], .s, .b, .i IntKind.i64, .s, .sl [Kd.s, Kd.b, Kd.i IntKind.i64, Kd.s, Kd.s, Kd.sl [Kd.s, Kd.b, Kd.i IntKind.i64, Kd.s], Kd.s, Kd.b, Kd.i IntKind.i64, Kd.s]]), (y5.snd.snd.fst.fst, (y5.snd.snd.fst.snd.fst, ())), (((y5.snd.snd.snd.fst.fst.fst, y5.snd.snd.snd.fst.fst.snd), (y5.snd.snd.snd.fst.snd.fst, ())), ()))
  else obind (parse_parser_args_v n y5.snd.snd.snd.fst.fst.fst y5.snd.snd.snd.fst.fst.snd y5.snd.snd.snd.fst.snd.fst) fun y6 =>
  bif y6.fst then
    some (true, Sh.dflt (.agg [.s, .b, .i IntKind.i64, .s, .s, .sl [Kd.s, Kd.b, Kd.i IntKind.i64, Kd.s], .s, .b, .i IntKind.i64, .s, .sl [Kd.s, Kd.b, Kd.i IntKind.i64, Kd.s, Kd.s, Kd.sl [Kd.s, Kd.b, Kd.i IntKind.i64, Kd.s], Kd.s, Kd.b, Kd.i IntKind.i64, Kd.s]]), (y6.snd.snd.fst.fst, (y6.snd.snd.fst.snd.fst, ())), (((y6.snd.snd.snd.fst.fst.fst, y6.snd.snd.snd.fst.fst.snd), (y6.snd.snd.snd.fst.snd.fst, ())), ()))
  else obind (parse_parser_pass_v n (ByteArray.mk #[116, 111]) y6.snd.snd.snd.fst.fst.fst y6.snd.snd.snd.fst.fst.snd y6.snd.snd.snd.fst.snd.fst) fun y7 =>
  bif y7.fst then
    obind (parse_parser_term_v n y7.snd.fst.fst.fst y7.snd.fst.fst.snd y7.snd.fst.snd.fst) fun y8 =>
    bif y8.fst then
      some (true, Sh.dflt (.agg [.s, .b, .i IntKind.i64, .s, .s, .sl [Kd.s, Kd.b, Kd.i IntKind.i64, Kd.s], .s, .b, .i IntKind.i64, .s, .sl [Kd.s, Kd.b, Kd.i IntKind.i64, Kd.s, Kd.s, Kd.sl [Kd.s, Kd.b, Kd.i IntKind.i64, Kd.s], Kd.s, Kd.b, Kd.i IntKind.i64, Kd.s]]), (y8.snd.snd.fst.fst, (y8.snd.snd.fst.snd.fst, ())), (((y8.snd.snd.snd.fst.fst.fst, y8.snd.snd.snd.fst.fst.snd), (y8.snd.snd.snd.fst.snd.fst, ())), ()))
    else obind (parse_parser_must_v n (ByteArray.mk #[58, 45]) y8.snd.snd.snd.fst.fst.fst y8.snd.snd.snd.fst.fst.snd y8.snd.snd.snd.fst.snd.fst) fun y9 =>
    bif y9.fst then
      some (true, Sh.dflt (.agg [.s, .b, .i IntKind.i64, .s, .s, .sl [Kd.s, Kd.b, Kd.i IntKind.i64, Kd.s], .s, .b, .i IntKind.i64, .s, .sl [Kd.s, Kd.b, Kd.i IntKind.i64, Kd.s, Kd.s, Kd.sl [Kd.s, Kd.b, Kd.i IntKind.i64, Kd.s], Kd.s, Kd.b, Kd.i IntKind.i64, Kd.s]]), (y9.snd.snd.fst.fst, (y9.snd.snd.fst.snd.fst, ())), (((y9.snd.snd.snd.fst.fst.fst, y9.snd.snd.snd.fst.fst.snd), (y9.snd.snd.snd.fst.snd.fst, ())), ()))
    else parse_parser_rule_l8 n b0 r1 j2 n y9.snd.snd.snd.fst.fst.fst y9.snd.snd.snd.fst.fst.snd y9.snd.snd.snd.fst.snd.fst y3.snd.fst.fst y3.snd.fst.snd.fst y3.snd.fst.snd.snd.fst y3.snd.fst.snd.snd.snd.fst y5.snd.fst y6.snd.fst.fst y6.snd.fst.snd y8.snd.fst.fst y8.snd.fst.snd.fst y8.snd.fst.snd.snd.fst y8.snd.fst.snd.snd.snd.fst true []
  else obind (parse_parser_must_v n (ByteArray.mk #[58, 45]) y7.snd.fst.fst.fst y7.snd.fst.fst.snd y7.snd.fst.snd.fst) fun y10 =>
  bif y10.fst then
    some (true, Sh.dflt (.agg [.s, .b, .i IntKind.i64, .s, .s, .sl [Kd.s, Kd.b, Kd.i IntKind.i64, Kd.s], .s, .b, .i IntKind.i64, .s, .sl [Kd.s, Kd.b, Kd.i IntKind.i64, Kd.s, Kd.s, Kd.sl [Kd.s, Kd.b, Kd.i IntKind.i64, Kd.s], Kd.s, Kd.b, Kd.i IntKind.i64, Kd.s]]), (y10.snd.snd.fst.fst, (y10.snd.snd.fst.snd.fst, ())), (((y10.snd.snd.snd.fst.fst.fst, y10.snd.snd.snd.fst.fst.snd), (y10.snd.snd.snd.fst.snd.fst, ())), ()))
  else parse_parser_rule_l8 n b0 r1 j2 n y10.snd.snd.snd.fst.fst.fst y10.snd.snd.snd.fst.fst.snd y10.snd.snd.snd.fst.snd.fst y3.snd.fst.fst y3.snd.fst.snd.fst y3.snd.fst.snd.snd.fst y3.snd.fst.snd.snd.snd.fst y5.snd.fst y6.snd.fst.fst y6.snd.fst.snd (ByteArray.mk #[]) false 0 (ByteArray.mk #[]) true [] := by kernel_rfl
theorem parse_parser_rule_c (n : Nat) (b0 : Bool) (r1 : Rows) (j2 : Int) (y : Bool × (ByteArray × Bool × Int × ByteArray × ByteArray × (Bool × Rows) × ByteArray × Bool × Int × ByteArray × (Bool × Rows) × Unit) × (Int × Int × Unit) × ((Bool × Rows) × Int × Unit) × Unit) (h : parse_parser_rule_v n b0 r1 j2 = some y) : Contract Try.prog 37 [AV.pl 1000 0] [[AV.sl b0 [Kd.i IntKind.i64, Kd.s, Kd.i IntKind.i64, Kd.i IntKind.i64] r1 Right.no, AV.dv (DV.val (Value.int IntKind.i64 j2))]] (OSh.enc (OSh.pan (.agg [.s, .b, .i IntKind.i64, .s, .s, .sl [Kd.s, Kd.b, Kd.i IntKind.i64, Kd.s], .s, .b, .i IntKind.i64, .s, .sl [Kd.s, Kd.b, Kd.i IntKind.i64, Kd.s, Kd.s, Kd.sl [Kd.s, Kd.b, Kd.i IntKind.i64, Kd.s], Kd.s, Kd.b, Kd.i IntKind.i64, Kd.s]]) (.ifc 53 (.agg [.i IntKind.i64, .i IntKind.i64])) [[.sl [Kd.i IntKind.i64, Kd.s, Kd.i IntKind.i64, Kd.i IntKind.i64], .i IntKind.i64]]) y) :=
  auto_okM tm_std (with_ok mixed (by kernel_rfl) (parse_parser_rule_σok n) n 0 []) (with_pick mixed (by kernel_rfl) (parse_parser_rule_σok n) n 0 []) mixed Try.func37 (by decide) (o := (OSh.pan (.agg [.s, .b, .i IntKind.i64, .s, .s, .sl [Kd.s, Kd.b, Kd.i IntKind.i64, Kd.s], .s, .b, .i IntKind.i64, .s, .sl [Kd.s, Kd.b, Kd.i IntKind.i64, Kd.s, Kd.s, Kd.sl [Kd.s, Kd.b, Kd.i IntKind.i64, Kd.s], Kd.s, Kd.b, Kd.i IntKind.i64, Kd.s]]) (.ifc 53 (.agg [.i IntKind.i64, .i IntKind.i64])) [[.sl [Kd.i IntKind.i64, Kd.s, Kd.i IntKind.i64, Kd.i IntKind.i64], .i IntKind.i64]])) h
/-! parse_Program: function 22 -/
def parse_Program_lv : Live := [(6, [2, 3, 4, 6], [2, 3, 4, 21, 1000, 1001, 1002, 1003])]
noncomputable def parse_Program_σ (n : Nat) : Spec := (inst 14 [.s] [] (OSh.plain (.tup [.sl [Kd.i IntKind.i64, Kd.s, Kd.i IntKind.i64, Kd.i IntKind.i64], .i IntKind.i64, .i IntKind.i64]) []) (fun x e => lex_Tokens_v n x.1) (inst 35 [.pl 1000 0] [[.sl [Kd.i IntKind.i64, Kd.s, Kd.i IntKind.i64, Kd.i IntKind.i64], .i IntKind.i64]] (OSh.plain (.b) [[.sl [Kd.i IntKind.i64, Kd.s, Kd.i IntKind.i64, Kd.i IntKind.i64], .i IntKind.i64]]) (fun x e => parse_parser_begins_v n e.1.1.1 e.1.1.2 e.1.2.1) (inst 37 [.pl 1000 0] [[.sl [Kd.i IntKind.i64, Kd.s, Kd.i IntKind.i64, Kd.i IntKind.i64], .i IntKind.i64]] (OSh.pan (.agg [.s, .b, .i IntKind.i64, .s, .s, .sl [Kd.s, Kd.b, Kd.i IntKind.i64, Kd.s], .s, .b, .i IntKind.i64, .s, .sl [Kd.s, Kd.b, Kd.i IntKind.i64, Kd.s, Kd.s, Kd.sl [Kd.s, Kd.b, Kd.i IntKind.i64, Kd.s], Kd.s, Kd.b, Kd.i IntKind.i64, Kd.s]]) (.ifc 53 (.agg [.i IntKind.i64, .i IntKind.i64])) [[.sl [Kd.i IntKind.i64, Kd.s, Kd.i IntKind.i64, Kd.i IntKind.i64], .i IntKind.i64]]) (fun x e => parse_parser_rule_v n e.1.1.1 e.1.1.2 e.1.2.1) (inst 36 [.pl 1000 0, .i IntKind.i64] [[.sl [Kd.i IntKind.i64, Kd.s, Kd.i IntKind.i64, Kd.i IntKind.i64], .i IntKind.i64]] (OSh.pan (.junk) (.ifc 53 (.agg [.i IntKind.i64, .i IntKind.i64])) [[.sl [Kd.i IntKind.i64, Kd.s, Kd.i IntKind.i64, Kd.i IntKind.i64], .i IntKind.i64]]) (fun x e => parse_parser_fail_v n x.2.1 e.1.1.1 e.1.1.2 e.1.2.1) Spec.none))))
theorem parse_Program_σok (n : Nat) : SpecOk Try.prog (parse_Program_σ n) := (inst_ok (fun x e y h => lex_Tokens_c n x.1 y h) (inst_ok (fun x e y h => parse_parser_begins_c n e.1.1.1 e.1.1.2 e.1.2.1 y h) (inst_ok (fun x e y h => parse_parser_rule_c n e.1.1.1 e.1.1.2 e.1.2.1 y h) (inst_ok (fun x e y h => parse_parser_fail_c n x.2.1 e.1.1.1 e.1.1.2 e.1.2.1 y h) (SpecOk.none _)))))
noncomputable def parse_Program_Φ (n : Nat) : Orc := with_ Try.prog (parse_Program_σ n) [] n 0 []
noncomputable def parse_Program_v (n : Nat) (s0 : ByteArray) : Option (((Bool × Rows) × Int × Int × Unit) × Unit) :=
  DM.denFnD tm (parse_Program_Φ n) parse_Program_lv n Try.f22 Try.f34 34 ([]) [AV.dv (DV.val (Value.string s0))] (OSh.chk (OSh.plain (.tup [.sl [Kd.s, Kd.b, Kd.i IntKind.i64, Kd.s, Kd.s, Kd.sl [Kd.s, Kd.b, Kd.i IntKind.i64, Kd.s], Kd.s, Kd.b, Kd.i IntKind.i64, Kd.s, Kd.sl [Kd.s, Kd.b, Kd.i IntKind.i64, Kd.s, Kd.s, Kd.sl [Kd.s, Kd.b, Kd.i IntKind.i64, Kd.s], Kd.s, Kd.b, Kd.i IntKind.i64, Kd.s]], .i IntKind.i64, .i IntKind.i64]) []))
noncomputable def parse_Program_l6 (n : Nat) (s0 : ByteArray) (i0 : Nat) (b2 : Bool) (r3 : List (List DV)) (j4 : Int) (j5 : Int) (j9 : Int) (b10 : Bool) (r11 : List (List DV)) : Option (((Bool × Rows) × Int × Int × Unit) × Unit) :=
  DM.loopFnD tm (parse_Program_Φ n) parse_Program_lv n Try.f22 Try.f34 34 ([]) [.pl 1001 0, .pl 1002 0, .pl 1003 0] (OSh.chk (OSh.plain (.tup [.sl [Kd.s, Kd.b, Kd.i IntKind.i64, Kd.s, Kd.s, Kd.sl [Kd.s, Kd.b, Kd.i IntKind.i64, Kd.s], Kd.s, Kd.b, Kd.i IntKind.i64, Kd.s, Kd.sl [Kd.s, Kd.b, Kd.i IntKind.i64, Kd.s, Kd.s, Kd.sl [Kd.s, Kd.b, Kd.i IntKind.i64, Kd.s], Kd.s, Kd.b, Kd.i IntKind.i64, Kd.s]], .i IntKind.i64, .i IntKind.i64]) [])) 6 [] i0 (St.mk [AV.junk, AV.junk, AV.pl 1001 0, AV.pl 1002 0, AV.pl 1003 0, AV.junk, AV.pl 1000 0, AV.junk, AV.junk, AV.junk, AV.junk, AV.junk, AV.junk, AV.junk, AV.junk, AV.junk, AV.junk, AV.junk, AV.junk, AV.junk, AV.junk, AV.junk, AV.junk, AV.junk, AV.junk, AV.junk, AV.junk, AV.junk, AV.junk, AV.junk, AV.junk, AV.junk, AV.junk, AV.junk, AV.junk, AV.junk, AV.junk, AV.junk, AV.junk, AV.junk, AV.junk, AV.junk, AV.junk, AV.junk] [(1000, [AV.sl b2 [Kd.i IntKind.i64, Kd.s, Kd.i IntKind.i64, Kd.i IntKind.i64] r3 Right.no, AV.dv (DV.val (Value.int IntKind.i64 j9))]), (1001, [AV.sl b10 [Kd.s, Kd.b, Kd.i IntKind.i64, Kd.s, Kd.s, Kd.sl [Kd.s, Kd.b, Kd.i IntKind.i64, Kd.s], Kd.s, Kd.b, Kd.i IntKind.i64, Kd.s, Kd.sl [Kd.s, Kd.b, Kd.i IntKind.i64, Kd.s, Kd.s, Kd.sl [Kd.s, Kd.b, Kd.i IntKind.i64, Kd.s], Kd.s, Kd.b, Kd.i IntKind.i64, Kd.s]] r11 (Right.tok 84064)]), (1002, [AV.dv (DV.val (Value.int IntKind.i64 j4))]), (1003, [AV.dv (DV.val (Value.int IntKind.i64 j5))])])
theorem parse_Program_s6 (n : Nat) (s0 : ByteArray) (i0 : Nat) (b2 : Bool) (r3 : List (List DV)) (j4 : Int) (j5 : Int) (j9 : Int) (b10 : Bool) (r11 : List (List DV)) : parse_Program_l6 n s0 (i0 + 1) b2 r3 j4 j5 j9 b10 r11 =
  bif decide ((↑(List.length r3) : Int) > 0) then
    obind (parse_parser_begins_v n b2 r3 j9) fun y12 =>
    bif y12.fst then
      bif (↑(List.length r11) : Int) == 16 then
        obind (parse_parser_fail_v n 81 y12.snd.fst.fst.fst y12.snd.fst.fst.snd y12.snd.fst.snd.fst) fun y13 =>
        bif y13.fst then
          some (((true, []), (y13.snd.snd.fst.fst, (y13.snd.snd.fst.snd.fst, ()))), ())
        else obind (parse_parser_rule_v n y13.snd.snd.snd.fst.fst.fst y13.snd.snd.snd.fst.fst.snd y13.snd.snd.snd.fst.snd.fst) fun y14 =>
        bif y14.fst then
          some (((true, []), (y14.snd.snd.fst.fst, (y14.snd.snd.fst.snd.fst, ()))), ())
        else if (List.length r11 + List.length [[DV.val (Value.string y14.snd.fst.fst), DV.val (Value.bool y14.snd.fst.snd.fst), DV.val (Value.int IntKind.i64 y14.snd.fst.snd.snd.fst), DV.val (Value.string y14.snd.fst.snd.snd.snd.fst), DV.val (Value.string y14.snd.fst.snd.snd.snd.snd.fst), DV.sl y14.snd.fst.snd.snd.snd.snd.snd.fst.fst [Kd.s, Kd.b, Kd.i IntKind.i64, Kd.s] y14.snd.fst.snd.snd.snd.snd.snd.fst.snd, DV.val (Value.string y14.snd.fst.snd.snd.snd.snd.snd.snd.fst), DV.val (Value.bool y14.snd.fst.snd.snd.snd.snd.snd.snd.snd.fst), DV.val (Value.int IntKind.i64 y14.snd.fst.snd.snd.snd.snd.snd.snd.snd.snd.fst), DV.val (Value.string y14.snd.fst.snd.snd.snd.snd.snd.snd.snd.snd.snd.fst), DV.sl y14.snd.fst.snd.snd.snd.snd.snd.snd.snd.snd.snd.snd.fst.fst [Kd.s, Kd.b, Kd.i IntKind.i64, Kd.s, Kd.s, Kd.sl [Kd.s, Kd.b, Kd.i IntKind.i64, Kd.s], Kd.s, Kd.b, Kd.i IntKind.i64, Kd.s] y14.snd.fst.snd.snd.snd.snd.snd.snd.snd.snd.snd.snd.fst.snd]]) * 160 ≤ 140737488355328 then
          parse_Program_l6 n s0 i0 y14.snd.snd.snd.fst.fst.fst y14.snd.snd.snd.fst.fst.snd j4 j5 y14.snd.snd.snd.fst.snd.fst (b10 && List.isEmpty [[DV.val (Value.string y14.snd.fst.fst), DV.val (Value.bool y14.snd.fst.snd.fst), DV.val (Value.int IntKind.i64 y14.snd.fst.snd.snd.fst), DV.val (Value.string y14.snd.fst.snd.snd.snd.fst), DV.val (Value.string y14.snd.fst.snd.snd.snd.snd.fst), DV.sl y14.snd.fst.snd.snd.snd.snd.snd.fst.fst [Kd.s, Kd.b, Kd.i IntKind.i64, Kd.s] y14.snd.fst.snd.snd.snd.snd.snd.fst.snd, DV.val (Value.string y14.snd.fst.snd.snd.snd.snd.snd.snd.fst), DV.val (Value.bool y14.snd.fst.snd.snd.snd.snd.snd.snd.snd.fst), DV.val (Value.int IntKind.i64 y14.snd.fst.snd.snd.snd.snd.snd.snd.snd.snd.fst), DV.val (Value.string y14.snd.fst.snd.snd.snd.snd.snd.snd.snd.snd.snd.fst), DV.sl y14.snd.fst.snd.snd.snd.snd.snd.snd.snd.snd.snd.snd.fst.fst [Kd.s, Kd.b, Kd.i IntKind.i64, Kd.s, Kd.s, Kd.sl [Kd.s, Kd.b, Kd.i IntKind.i64, Kd.s], Kd.s, Kd.b, Kd.i IntKind.i64, Kd.s] y14.snd.fst.snd.snd.snd.snd.snd.snd.snd.snd.snd.snd.fst.snd]]) (appX r11 [[DV.val (Value.string y14.snd.fst.fst), DV.val (Value.bool y14.snd.fst.snd.fst), DV.val (Value.int IntKind.i64 y14.snd.fst.snd.snd.fst), DV.val (Value.string y14.snd.fst.snd.snd.snd.fst), DV.val (Value.string y14.snd.fst.snd.snd.snd.snd.fst), DV.sl y14.snd.fst.snd.snd.snd.snd.snd.fst.fst [Kd.s, Kd.b, Kd.i IntKind.i64, Kd.s] y14.snd.fst.snd.snd.snd.snd.snd.fst.snd, DV.val (Value.string y14.snd.fst.snd.snd.snd.snd.snd.snd.fst), DV.val (Value.bool y14.snd.fst.snd.snd.snd.snd.snd.snd.snd.fst), DV.val (Value.int IntKind.i64 y14.snd.fst.snd.snd.snd.snd.snd.snd.snd.snd.fst), DV.val (Value.string y14.snd.fst.snd.snd.snd.snd.snd.snd.snd.snd.snd.fst), DV.sl y14.snd.fst.snd.snd.snd.snd.snd.snd.snd.snd.snd.snd.fst.fst [Kd.s, Kd.b, Kd.i IntKind.i64, Kd.s, Kd.s, Kd.sl [Kd.s, Kd.b, Kd.i IntKind.i64, Kd.s], Kd.s, Kd.b, Kd.i IntKind.i64, Kd.s] y14.snd.fst.snd.snd.snd.snd.snd.snd.snd.snd.snd.snd.fst.snd]])
        else none
      else obind (parse_parser_rule_v n y12.snd.fst.fst.fst y12.snd.fst.fst.snd y12.snd.fst.snd.fst) fun y15 =>
      bif y15.fst then
        some (((true, []), (y15.snd.snd.fst.fst, (y15.snd.snd.fst.snd.fst, ()))), ())
      else if (List.length r11 + List.length [[DV.val (Value.string y15.snd.fst.fst), DV.val (Value.bool y15.snd.fst.snd.fst), DV.val (Value.int IntKind.i64 y15.snd.fst.snd.snd.fst), DV.val (Value.string y15.snd.fst.snd.snd.snd.fst), DV.val (Value.string y15.snd.fst.snd.snd.snd.snd.fst), DV.sl y15.snd.fst.snd.snd.snd.snd.snd.fst.fst [Kd.s, Kd.b, Kd.i IntKind.i64, Kd.s] y15.snd.fst.snd.snd.snd.snd.snd.fst.snd, DV.val (Value.string y15.snd.fst.snd.snd.snd.snd.snd.snd.fst), DV.val (Value.bool y15.snd.fst.snd.snd.snd.snd.snd.snd.snd.fst), DV.val (Value.int IntKind.i64 y15.snd.fst.snd.snd.snd.snd.snd.snd.snd.snd.fst), DV.val (Value.string y15.snd.fst.snd.snd.snd.snd.snd.snd.snd.snd.snd.fst), DV.sl y15.snd.fst.snd.snd.snd.snd.snd.snd.snd.snd.snd.snd.fst.fst [Kd.s, Kd.b, Kd.i IntKind.i64, Kd.s, Kd.s, Kd.sl [Kd.s, Kd.b, Kd.i IntKind.i64, Kd.s], Kd.s, Kd.b, Kd.i IntKind.i64, Kd.s] y15.snd.fst.snd.snd.snd.snd.snd.snd.snd.snd.snd.snd.fst.snd]]) * 160 ≤ 140737488355328 then
        parse_Program_l6 n s0 i0 y15.snd.snd.snd.fst.fst.fst y15.snd.snd.snd.fst.fst.snd j4 j5 y15.snd.snd.snd.fst.snd.fst (b10 && List.isEmpty [[DV.val (Value.string y15.snd.fst.fst), DV.val (Value.bool y15.snd.fst.snd.fst), DV.val (Value.int IntKind.i64 y15.snd.fst.snd.snd.fst), DV.val (Value.string y15.snd.fst.snd.snd.snd.fst), DV.val (Value.string y15.snd.fst.snd.snd.snd.snd.fst), DV.sl y15.snd.fst.snd.snd.snd.snd.snd.fst.fst [Kd.s, Kd.b, Kd.i IntKind.i64, Kd.s] y15.snd.fst.snd.snd.snd.snd.snd.fst.snd, DV.val (Value.string y15.snd.fst.snd.snd.snd.snd.snd.snd.fst), DV.val (Value.bool y15.snd.fst.snd.snd.snd.snd.snd.snd.snd.fst), DV.val (Value.int IntKind.i64 y15.snd.fst.snd.snd.snd.snd.snd.snd.snd.snd.fst), DV.val (Value.string y15.snd.fst.snd.snd.snd.snd.snd.snd.snd.snd.snd.fst), DV.sl y15.snd.fst.snd.snd.snd.snd.snd.snd.snd.snd.snd.snd.fst.fst [Kd.s, Kd.b, Kd.i IntKind.i64, Kd.s, Kd.s, Kd.sl [Kd.s, Kd.b, Kd.i IntKind.i64, Kd.s], Kd.s, Kd.b, Kd.i IntKind.i64, Kd.s] y15.snd.fst.snd.snd.snd.snd.snd.snd.snd.snd.snd.snd.fst.snd]]) (appX r11 [[DV.val (Value.string y15.snd.fst.fst), DV.val (Value.bool y15.snd.fst.snd.fst), DV.val (Value.int IntKind.i64 y15.snd.fst.snd.snd.fst), DV.val (Value.string y15.snd.fst.snd.snd.snd.fst), DV.val (Value.string y15.snd.fst.snd.snd.snd.snd.fst), DV.sl y15.snd.fst.snd.snd.snd.snd.snd.fst.fst [Kd.s, Kd.b, Kd.i IntKind.i64, Kd.s] y15.snd.fst.snd.snd.snd.snd.snd.fst.snd, DV.val (Value.string y15.snd.fst.snd.snd.snd.snd.snd.snd.fst), DV.val (Value.bool y15.snd.fst.snd.snd.snd.snd.snd.snd.snd.fst), DV.val (Value.int IntKind.i64 y15.snd.fst.snd.snd.snd.snd.snd.snd.snd.snd.fst), DV.val (Value.string y15.snd.fst.snd.snd.snd.snd.snd.snd.snd.snd.snd.fst), DV.sl y15.snd.fst.snd.snd.snd.snd.snd.snd.snd.snd.snd.snd.fst.fst [Kd.s, Kd.b, Kd.i IntKind.i64, Kd.s, Kd.s, Kd.sl [Kd.s, Kd.b, Kd.i IntKind.i64, Kd.s], Kd.s, Kd.b, Kd.i IntKind.i64, Kd.s] y15.snd.fst.snd.snd.snd.snd.snd.snd.snd.snd.snd.snd.fst.snd]])
      else none
    else obind (parse_parser_rule_v n y12.snd.fst.fst.fst y12.snd.fst.fst.snd y12.snd.fst.snd.fst) fun y16 =>
    bif y16.fst then
      some (((true, []), (y16.snd.snd.fst.fst, (y16.snd.snd.fst.snd.fst, ()))), ())
    else if (List.length r11 + List.length [[DV.val (Value.string y16.snd.fst.fst), DV.val (Value.bool y16.snd.fst.snd.fst), DV.val (Value.int IntKind.i64 y16.snd.fst.snd.snd.fst), DV.val (Value.string y16.snd.fst.snd.snd.snd.fst), DV.val (Value.string y16.snd.fst.snd.snd.snd.snd.fst), DV.sl y16.snd.fst.snd.snd.snd.snd.snd.fst.fst [Kd.s, Kd.b, Kd.i IntKind.i64, Kd.s] y16.snd.fst.snd.snd.snd.snd.snd.fst.snd, DV.val (Value.string y16.snd.fst.snd.snd.snd.snd.snd.snd.fst), DV.val (Value.bool y16.snd.fst.snd.snd.snd.snd.snd.snd.snd.fst), DV.val (Value.int IntKind.i64 y16.snd.fst.snd.snd.snd.snd.snd.snd.snd.snd.fst), DV.val (Value.string y16.snd.fst.snd.snd.snd.snd.snd.snd.snd.snd.snd.fst), DV.sl y16.snd.fst.snd.snd.snd.snd.snd.snd.snd.snd.snd.snd.fst.fst [Kd.s, Kd.b, Kd.i IntKind.i64, Kd.s, Kd.s, Kd.sl [Kd.s, Kd.b, Kd.i IntKind.i64, Kd.s], Kd.s, Kd.b, Kd.i IntKind.i64, Kd.s] y16.snd.fst.snd.snd.snd.snd.snd.snd.snd.snd.snd.snd.fst.snd]]) * 160 ≤ 140737488355328 then
      parse_Program_l6 n s0 i0 y16.snd.snd.snd.fst.fst.fst y16.snd.snd.snd.fst.fst.snd j4 j5 y16.snd.snd.snd.fst.snd.fst (b10 && List.isEmpty [[DV.val (Value.string y16.snd.fst.fst), DV.val (Value.bool y16.snd.fst.snd.fst), DV.val (Value.int IntKind.i64 y16.snd.fst.snd.snd.fst), DV.val (Value.string y16.snd.fst.snd.snd.snd.fst), DV.val (Value.string y16.snd.fst.snd.snd.snd.snd.fst), DV.sl y16.snd.fst.snd.snd.snd.snd.snd.fst.fst [Kd.s, Kd.b, Kd.i IntKind.i64, Kd.s] y16.snd.fst.snd.snd.snd.snd.snd.fst.snd, DV.val (Value.string y16.snd.fst.snd.snd.snd.snd.snd.snd.fst), DV.val (Value.bool y16.snd.fst.snd.snd.snd.snd.snd.snd.snd.fst), DV.val (Value.int IntKind.i64 y16.snd.fst.snd.snd.snd.snd.snd.snd.snd.snd.fst), DV.val (Value.string y16.snd.fst.snd.snd.snd.snd.snd.snd.snd.snd.snd.fst), DV.sl y16.snd.fst.snd.snd.snd.snd.snd.snd.snd.snd.snd.snd.fst.fst [Kd.s, Kd.b, Kd.i IntKind.i64, Kd.s, Kd.s, Kd.sl [Kd.s, Kd.b, Kd.i IntKind.i64, Kd.s], Kd.s, Kd.b, Kd.i IntKind.i64, Kd.s] y16.snd.fst.snd.snd.snd.snd.snd.snd.snd.snd.snd.snd.fst.snd]]) (appX r11 [[DV.val (Value.string y16.snd.fst.fst), DV.val (Value.bool y16.snd.fst.snd.fst), DV.val (Value.int IntKind.i64 y16.snd.fst.snd.snd.fst), DV.val (Value.string y16.snd.fst.snd.snd.snd.fst), DV.val (Value.string y16.snd.fst.snd.snd.snd.snd.fst), DV.sl y16.snd.fst.snd.snd.snd.snd.snd.fst.fst [Kd.s, Kd.b, Kd.i IntKind.i64, Kd.s] y16.snd.fst.snd.snd.snd.snd.snd.fst.snd, DV.val (Value.string y16.snd.fst.snd.snd.snd.snd.snd.snd.fst), DV.val (Value.bool y16.snd.fst.snd.snd.snd.snd.snd.snd.snd.fst), DV.val (Value.int IntKind.i64 y16.snd.fst.snd.snd.snd.snd.snd.snd.snd.snd.fst), DV.val (Value.string y16.snd.fst.snd.snd.snd.snd.snd.snd.snd.snd.snd.fst), DV.sl y16.snd.fst.snd.snd.snd.snd.snd.snd.snd.snd.snd.snd.fst.fst [Kd.s, Kd.b, Kd.i IntKind.i64, Kd.s, Kd.s, Kd.sl [Kd.s, Kd.b, Kd.i IntKind.i64, Kd.s], Kd.s, Kd.b, Kd.i IntKind.i64, Kd.s] y16.snd.fst.snd.snd.snd.snd.snd.snd.snd.snd.snd.snd.fst.snd]])
    else none
  else some (((b10, r11), (0, (0, ()))), ()) := by kernel_rfl
theorem parse_Program_e (n : Nat) (s0 : ByteArray) : parse_Program_v n s0 =
  obind (lex_Tokens_v n s0) fun y1 =>
  bif y1.fst.snd.snd.fst != 0 then
    some (((true, []), (y1.fst.snd.fst, (y1.fst.snd.snd.fst, ()))), ())
  else parse_Program_l6 n s0 n y1.fst.fst.fst y1.fst.fst.snd y1.fst.snd.fst y1.fst.snd.snd.fst ((↑(ByteArray.size s0) : Int)) true [] := by kernel_rfl
theorem parse_Program_c (n : Nat) (s0 : ByteArray) (y : ((Bool × Rows) × Int × Int × Unit) × Unit) (h : parse_Program_v n s0 = some y) : Contract Try.prog 22 [AV.dv (DV.val (Value.string s0))] [] (OSh.enc (OSh.plain (.tup [.sl [Kd.s, Kd.b, Kd.i IntKind.i64, Kd.s, Kd.s, Kd.sl [Kd.s, Kd.b, Kd.i IntKind.i64, Kd.s], Kd.s, Kd.b, Kd.i IntKind.i64, Kd.s, Kd.sl [Kd.s, Kd.b, Kd.i IntKind.i64, Kd.s, Kd.s, Kd.sl [Kd.s, Kd.b, Kd.i IntKind.i64, Kd.s], Kd.s, Kd.b, Kd.i IntKind.i64, Kd.s]], .i IntKind.i64, .i IntKind.i64]) []) y) :=
  autoD_okM tm_std (with_ok mixed (by kernel_rfl) (parse_Program_σok n) n 0 []) mixed Try.func22 (by decide) Try.func34 (by decide) (by decide) (o := (OSh.plain (.tup [.sl [Kd.s, Kd.b, Kd.i IntKind.i64, Kd.s, Kd.s, Kd.sl [Kd.s, Kd.b, Kd.i IntKind.i64, Kd.s], Kd.s, Kd.b, Kd.i IntKind.i64, Kd.s, Kd.sl [Kd.s, Kd.b, Kd.i IntKind.i64, Kd.s, Kd.s, Kd.sl [Kd.s, Kd.b, Kd.i IntKind.i64, Kd.s], Kd.s, Kd.b, Kd.i IntKind.i64, Kd.s]], .i IntKind.i64, .i IntKind.i64]) [])) h
/-! ref07_Skip: function 20 -/
def ref07_Skip_lv : Live := [(2, [0, 1, 5], [1000, 1001, 1002, 1003])]
noncomputable def ref07_Skip_σ (n : Nat) : Spec := Spec.none
theorem ref07_Skip_σok (n : Nat) : SpecOk Try.prog (ref07_Skip_σ n) := (SpecOk.none _)
noncomputable def ref07_Skip_Φ (n : Nat) : Orc := with_ Try.prog (ref07_Skip_σ n) [] n 0 []
noncomputable def ref07_Skip_v (n : Nat) (s0 : ByteArray) (j1 : Int) : Option (Int × Unit) :=
  DM.denFn tm (ref07_Skip_Φ n) ref07_Skip_lv n Try.f20 false [AV.dv (DV.val (Value.string s0)), AV.dv (DV.val (Value.int IntKind.i64 j1))] [] (OSh.chk (OSh.plain (.i IntKind.i64) []))
noncomputable def ref07_Skip_l2 (n : Nat) (s0 : ByteArray) (j1 : Int) (i0 : Nat) (j2 : Int) (b3 : Bool) : Option (Int × Unit) :=
  DM.loopFn tm (ref07_Skip_Φ n) ref07_Skip_lv n Try.f20 false [] (OSh.chk (OSh.plain (.i IntKind.i64) [])) 2 [] i0 (St.mk [AV.dv (DV.val (Value.string s0)), AV.dv (DV.val (Value.int IntKind.i64 j2)), AV.junk, AV.junk, AV.junk, AV.dv (DV.val (Value.bool b3)), AV.junk, AV.junk, AV.junk, AV.junk, AV.junk, AV.junk, AV.junk, AV.junk, AV.junk, AV.junk, AV.junk, AV.junk, AV.junk, AV.junk, AV.junk, AV.junk, AV.junk, AV.junk, AV.junk, AV.junk, AV.junk, AV.junk, AV.junk, AV.junk, AV.junk, AV.junk, AV.junk, AV.junk, AV.junk, AV.junk, AV.junk, AV.junk, AV.junk, AV.junk] [])
theorem ref07_Skip_s2 (n : Nat) (s0 : ByteArray) (j1 : Int) (i0 : Nat) (j2 : Int) (b3 : Bool) : ref07_Skip_l2 n s0 j1 (i0 + 1) j2 b3 =
  bif decide (j2 < (↑(ByteArray.size s0) : Int)) then
    if 0 ≤ j2 then
      if j2 < (↑(ByteArray.size s0) : Int) then
        bif bt s0 j2 == 10 then
          bif bt s0 j2 == 37 then
            ref07_Skip_l2 n s0 j1 i0 (IntKind.wrap IntKind.i64 (j2 + 1)) true
          else bif bt s0 j2 != 32 then
            bif bt s0 j2 != 9 then
              bif bt s0 j2 != 10 then
                bif bt s0 j2 != 13 then
                  some (j2, ())
                else ref07_Skip_l2 n s0 j1 i0 (IntKind.wrap IntKind.i64 (j2 + 1)) false
              else ref07_Skip_l2 n s0 j1 i0 (IntKind.wrap IntKind.i64 (j2 + 1)) false
            else ref07_Skip_l2 n s0 j1 i0 (IntKind.wrap IntKind.i64 (j2 + 1)) false
          else ref07_Skip_l2 n s0 j1 i0 (IntKind.wrap IntKind.i64 (j2 + 1)) false
        else bif bt s0 j2 == 37 then
          ref07_Skip_l2 n s0 j1 i0 (IntKind.wrap IntKind.i64 (j2 + 1)) true
        else bif !b3 then
          bif bt s0 j2 != 32 then
            bif bt s0 j2 != 9 then
              bif bt s0 j2 != 10 then
                bif bt s0 j2 != 13 then
                  some (j2, ())
                else ref07_Skip_l2 n s0 j1 i0 (IntKind.wrap IntKind.i64 (j2 + 1)) b3
              else ref07_Skip_l2 n s0 j1 i0 (IntKind.wrap IntKind.i64 (j2 + 1)) b3
            else ref07_Skip_l2 n s0 j1 i0 (IntKind.wrap IntKind.i64 (j2 + 1)) b3
          else ref07_Skip_l2 n s0 j1 i0 (IntKind.wrap IntKind.i64 (j2 + 1)) b3
        else ref07_Skip_l2 n s0 j1 i0 (IntKind.wrap IntKind.i64 (j2 + 1)) b3
      else none
    else none
  else some (j2, ()) := by kernel_rfl
theorem ref07_Skip_e (n : Nat) (s0 : ByteArray) (j1 : Int) : ref07_Skip_v n s0 j1 =
  ref07_Skip_l2 n s0 j1 n j1 false := by kernel_rfl
theorem ref07_Skip_c (n : Nat) (s0 : ByteArray) (j1 : Int) (y : Int × Unit) (h : ref07_Skip_v n s0 j1 = some y) : Contract Try.prog 20 [AV.dv (DV.val (Value.string s0)), AV.dv (DV.val (Value.int IntKind.i64 j1))] [] (OSh.enc (OSh.plain (.i IntKind.i64) []) y) :=
  auto_okM tm_std (with_ok mixed (by kernel_rfl) (ref07_Skip_σok n) n 0 []) (with_pick mixed (by kernel_rfl) (ref07_Skip_σok n) n 0 []) mixed Try.func20 (by decide) (o := (OSh.plain (.i IntKind.i64) [])) h
/-! ref07_small: function 28 -/
def ref07_small_lv : Live := []
noncomputable def ref07_small_σ (n : Nat) : Spec := Spec.none
theorem ref07_small_σok (n : Nat) : SpecOk Try.prog (ref07_small_σ n) := (SpecOk.none _)
noncomputable def ref07_small_Φ (n : Nat) : Orc := with_ Try.prog (ref07_small_σ n) [] n 0 []
noncomputable def ref07_small_v (n : Nat) (j0 : Int) : Option (Bool × Unit) :=
  DM.denFn tm (ref07_small_Φ n) ref07_small_lv n Try.f28 false [AV.dv (DV.val (Value.int IntKind.u8 j0))] [] (OSh.chk (OSh.plain (.b) []))
theorem ref07_small_e (n : Nat) (j0 : Int) : ref07_small_v n j0 =
  bif decide (j0 ≥ 97) then
    some (decide (j0 ≤ 122), ())
  else some (false, ()) := by kernel_rfl
theorem ref07_small_c (n : Nat) (j0 : Int) (y : Bool × Unit) (h : ref07_small_v n j0 = some y) : Contract Try.prog 28 [AV.dv (DV.val (Value.int IntKind.u8 j0))] [] (OSh.enc (OSh.plain (.b) []) y) :=
  auto_okM tm_std (with_ok mixed (by kernel_rfl) (ref07_small_σok n) n 0 []) (with_pick mixed (by kernel_rfl) (ref07_small_σok n) n 0 []) mixed Try.func28 (by decide) (o := (OSh.plain (.b) [])) h
/-! ref07_great: function 29 -/
def ref07_great_lv : Live := []
noncomputable def ref07_great_σ (n : Nat) : Spec := Spec.none
theorem ref07_great_σok (n : Nat) : SpecOk Try.prog (ref07_great_σ n) := (SpecOk.none _)
noncomputable def ref07_great_Φ (n : Nat) : Orc := with_ Try.prog (ref07_great_σ n) [] n 0 []
noncomputable def ref07_great_v (n : Nat) (j0 : Int) : Option (Bool × Unit) :=
  DM.denFn tm (ref07_great_Φ n) ref07_great_lv n Try.f29 false [AV.dv (DV.val (Value.int IntKind.u8 j0))] [] (OSh.chk (OSh.plain (.b) []))
theorem ref07_great_e (n : Nat) (j0 : Int) : ref07_great_v n j0 =
  bif decide (j0 ≥ 65) then
    some (decide (j0 ≤ 90), ())
  else some (false, ()) := by kernel_rfl
theorem ref07_great_c (n : Nat) (j0 : Int) (y : Bool × Unit) (h : ref07_great_v n j0 = some y) : Contract Try.prog 29 [AV.dv (DV.val (Value.int IntKind.u8 j0))] [] (OSh.enc (OSh.plain (.b) []) y) :=
  auto_okM tm_std (with_ok mixed (by kernel_rfl) (ref07_great_σok n) n 0 []) (with_pick mixed (by kernel_rfl) (ref07_great_σok n) n 0 []) mixed Try.func29 (by decide) (o := (OSh.plain (.b) [])) h
/-! ref07_digit: function 31 -/
def ref07_digit_lv : Live := []
noncomputable def ref07_digit_σ (n : Nat) : Spec := Spec.none
theorem ref07_digit_σok (n : Nat) : SpecOk Try.prog (ref07_digit_σ n) := (SpecOk.none _)
noncomputable def ref07_digit_Φ (n : Nat) : Orc := with_ Try.prog (ref07_digit_σ n) [] n 0 []
noncomputable def ref07_digit_v (n : Nat) (j0 : Int) : Option (Bool × Unit) :=
  DM.denFn tm (ref07_digit_Φ n) ref07_digit_lv n Try.f31 false [AV.dv (DV.val (Value.int IntKind.u8 j0))] [] (OSh.chk (OSh.plain (.b) []))
theorem ref07_digit_e (n : Nat) (j0 : Int) : ref07_digit_v n j0 =
  bif decide (j0 ≥ 48) then
    some (decide (j0 ≤ 57), ())
  else some (false, ()) := by kernel_rfl
theorem ref07_digit_c (n : Nat) (j0 : Int) (y : Bool × Unit) (h : ref07_digit_v n j0 = some y) : Contract Try.prog 31 [AV.dv (DV.val (Value.int IntKind.u8 j0))] [] (OSh.enc (OSh.plain (.b) []) y) :=
  auto_okM tm_std (with_ok mixed (by kernel_rfl) (ref07_digit_σok n) n 0 []) (with_pick mixed (by kernel_rfl) (ref07_digit_σok n) n 0 []) mixed Try.func31 (by decide) (o := (OSh.plain (.b) [])) h
/-! ref07_number: function 32 -/
def ref07_number_lv : Live := [(6, [0, 1, 4, 6, 7, 8], [4, 1000, 1001, 1002, 1003])]
noncomputable def ref07_number_σ (n : Nat) : Spec := (inst 31 [.i IntKind.u8] [] (OSh.plain (.b) []) (fun x e => ref07_digit_v n x.1) Spec.none)
theorem ref07_number_σok (n : Nat) : SpecOk Try.prog (ref07_number_σ n) := (inst_ok (fun x e y h => ref07_digit_c n x.1 y h) (SpecOk.none _))
noncomputable def ref07_number_Φ (n : Nat) : Orc := with_ Try.prog (ref07_number_σ n) [] n 0 []
noncomputable def ref07_number_v (n : Nat) (s0 : ByteArray) (j1 : Int) : Option (((Int × ByteArray × Int × Int × Unit) × Int × Unit) × Unit) :=
  DM.denFn tm (ref07_number_Φ n) ref07_number_lv n Try.f32 false [AV.dv (DV.val (Value.string s0)), AV.dv (DV.val (Value.int IntKind.i64 j1))] [] (OSh.chk (OSh.plain (.tup [.agg [.i IntKind.i64, .s, .i IntKind.i64, .i IntKind.i64], .i IntKind.i64]) []))
noncomputable def ref07_number_l6 (n : Nat) (s0 : ByteArray) (j1 : Int) (i0 : Nat) (j2 : Int) (j3 : Int) (j5 : Int) : Option (((Int × ByteArray × Int × Int × Unit) × Int × Unit) × Unit) :=
  DM.loopFn tm (ref07_number_Φ n) ref07_number_lv n Try.f32 false [] (OSh.chk (OSh.plain (.tup [.agg [.i IntKind.i64, .s, .i IntKind.i64, .i IntKind.i64], .i IntKind.i64]) [])) 6 [] i0 (St.mk [AV.dv (DV.val (Value.string s0)), AV.dv (DV.val (Value.int IntKind.i64 j1)), AV.junk, AV.junk, AV.pl 4 0, AV.junk, AV.dv (DV.val (Value.int IntKind.i64 j2)), AV.dv (DV.val (Value.int IntKind.i64 j3)), AV.dv (DV.val (Value.int IntKind.i64 j5)), AV.junk, AV.junk, AV.junk, AV.junk, AV.junk, AV.junk, AV.junk, AV.junk, AV.junk, AV.junk, AV.junk, AV.junk, AV.junk, AV.junk, AV.junk, AV.junk, AV.junk, AV.junk, AV.junk, AV.junk, AV.junk, AV.junk, AV.junk, AV.junk, AV.junk, AV.junk, AV.junk, AV.junk, AV.junk, AV.junk, AV.junk, AV.junk, AV.junk, AV.junk, AV.junk, AV.junk, AV.junk, AV.junk, AV.junk, AV.junk, AV.junk, AV.junk, AV.junk, AV.junk, AV.junk, AV.junk, AV.junk, AV.junk, AV.junk, AV.junk, AV.junk, AV.junk, AV.junk, AV.junk, AV.junk, AV.junk, AV.junk, AV.junk, AV.junk, AV.junk, AV.junk, AV.junk, AV.junk, AV.junk, AV.junk, AV.junk, AV.junk, AV.junk, AV.junk] [(4, [AV.dv (DV.val (Value.int IntKind.i64 0)), AV.dv (DV.val (Value.string (ByteArray.mk #[]))), AV.dv (DV.val (Value.int IntKind.i64 0)), AV.dv (DV.val (Value.int IntKind.i64 0))])])
theorem ref07_number_s6 (n : Nat) (s0 : ByteArray) (j1 : Int) (i0 : Nat) (j2 : Int) (j3 : Int) (j5 : Int) : ref07_number_l6 n s0 j1 (i0 + 1) j2 j3 j5 =
  bif decide (j2 < (↑(ByteArray.size s0) : Int)) then
    if 0 ≤ j2 then
      if j2 < (↑(ByteArray.size s0) : Int) then
        obind (ref07_digit_v n (bt s0 j2)) fun y6 =>
        bif y6.fst then
          if 0 ≤ j2 then
            if j2 < (↑(ByteArray.size s0) : Int) then
              bif decide (j5 < IntKind.wrap IntKind.i64 (Int.tdiv (IntKind.wrap IntKind.i64 (-9223372036854775808 + IntKind.wrap IntKind.i64 (IntKind.wrap IntKind.u8 (bt s0 j2 - 48)))) 10)) then
                some (((0, (ByteArray.mk #[], (0, (0, ())))), (-1, ())), ())
              else ref07_number_l6 n s0 j1 i0 (IntKind.wrap IntKind.i64 (j2 + 1)) j3 (IntKind.wrap IntKind.i64 (IntKind.wrap IntKind.i64 (10 * j5) - IntKind.wrap IntKind.i64 (IntKind.wrap IntKind.u8 (bt s0 j2 - 48))))
            else none
          else none
        else bif j2 == j3 then
          some (((0, (ByteArray.mk #[], (0, (0, ())))), (-1, ())), ())
        else if 0 ≤ j3 then
          if j3 < (↑(ByteArray.size s0) : Int) then
            bif bt s0 j3 == 48 then
              bif decide (j2 > IntKind.wrap IntKind.i64 (j3 + 1)) then
                some (((0, (ByteArray.mk #[], (0, (0, ())))), (-1, ())), ())
              else bif decide (j3 > j1) then
                some (((0, (ByteArray.mk #[], (0, (0, ())))), (-1, ())), ())
              else bif j3 == j1 then
                bif j5 == -9223372036854775808 then
                  some (((0, (ByteArray.mk #[], (0, (0, ())))), (-1, ())), ())
                else some (((3, (ByteArray.mk #[], (IntKind.wrap IntKind.i64 (0 - j5), (j1, ())))), (j2, ())), ())
              else some (((3, (ByteArray.mk #[], (j5, (j1, ())))), (j2, ())), ())
            else bif j3 == j1 then
              bif j5 == -9223372036854775808 then
                some (((0, (ByteArray.mk #[], (0, (0, ())))), (-1, ())), ())
              else some (((3, (ByteArray.mk #[], (IntKind.wrap IntKind.i64 (0 - j5), (j1, ())))), (j2, ())), ())
            else some (((3, (ByteArray.mk #[], (j5, (j1, ())))), (j2, ())), ())
          else none
        else none
      else none
    else none
  else bif j2 == j3 then
    some (((0, (ByteArray.mk #[], (0, (0, ())))), (-1, ())), ())
  else if 0 ≤ j3 then
    if j3 < (↑(ByteArray.size s0) : Int) then
      bif bt s0 j3 == 48 then
        bif decide (j2 > IntKind.wrap IntKind.i64 (j3 + 1)) then
          some (((0, (ByteArray.mk #[], (0, (0, ())))), (-1, ())), ())
        else bif decide (j3 > j1) then
          some (((0, (ByteArray.mk #[], (0, (0, ())))), (-1, ())), ())
        else bif j3 == j1 then
          bif j5 == -9223372036854775808 then
            some (((0, (ByteArray.mk #[], (0, (0, ())))), (-1, ())), ())
          else some (((3, (ByteArray.mk #[], (IntKind.wrap IntKind.i64 (0 - j5), (j1, ())))), (j2, ())), ())
        else some (((3, (ByteArray.mk #[], (j5, (j1, ())))), (j2, ())), ())
      else bif j3 == j1 then
        bif j5 == -9223372036854775808 then
          some (((0, (ByteArray.mk #[], (0, (0, ())))), (-1, ())), ())
        else some (((3, (ByteArray.mk #[], (IntKind.wrap IntKind.i64 (0 - j5), (j1, ())))), (j2, ())), ())
      else some (((3, (ByteArray.mk #[], (j5, (j1, ())))), (j2, ())), ())
    else none
  else none := by kernel_rfl
theorem ref07_number_e (n : Nat) (s0 : ByteArray) (j1 : Int) : ref07_number_v n s0 j1 =
  if 0 ≤ j1 then
    if j1 < (↑(ByteArray.size s0) : Int) then
      bif bt s0 j1 == 45 then
        ref07_number_l6 n s0 j1 n (IntKind.wrap IntKind.i64 (j1 + 1)) (IntKind.wrap IntKind.i64 (j1 + 1)) 0
      else ref07_number_l6 n s0 j1 n j1 j1 0
    else none
  else none := by kernel_rfl
theorem ref07_number_c (n : Nat) (s0 : ByteArray) (j1 : Int) (y : ((Int × ByteArray × Int × Int × Unit) × Int × Unit) × Unit) (h : ref07_number_v n s0 j1 = some y) : Contract Try.prog 32 [AV.dv (DV.val (Value.string s0)), AV.dv (DV.val (Value.int IntKind.i64 j1))] [] (OSh.enc (OSh.plain (.tup [.agg [.i IntKind.i64, .s, .i IntKind.i64, .i IntKind.i64], .i IntKind.i64]) []) y) :=
  auto_okM tm_std (with_ok mixed (by kernel_rfl) (ref07_number_σok n) n 0 []) (with_pick mixed (by kernel_rfl) (ref07_number_σok n) n 0 []) mixed Try.func32 (by decide) (o := (OSh.plain (.tup [.agg [.i IntKind.i64, .s, .i IntKind.i64, .i IntKind.i64], .i IntKind.i64]) [])) h
/-! ref07_Plain: function 52 -/
def ref07_Plain_lv : Live := []
noncomputable def ref07_Plain_σ (n : Nat) : Spec := Spec.none
theorem ref07_Plain_σok (n : Nat) : SpecOk Try.prog (ref07_Plain_σ n) := (SpecOk.none _)
noncomputable def ref07_Plain_Φ (n : Nat) : Orc := with_ Try.prog (ref07_Plain_σ n) [] n 0 []
noncomputable def ref07_Plain_v (n : Nat) (j0 : Int) : Option (Bool × Unit) :=
  DM.denFn tm (ref07_Plain_Φ n) ref07_Plain_lv n Try.f52 false [AV.dv (DV.val (Value.int IntKind.u8 j0))] [] (OSh.chk (OSh.plain (.b) []))
theorem ref07_Plain_e (n : Nat) (j0 : Int) : ref07_Plain_v n j0 =
  bif decide (j0 ≥ 32) then
    bif decide (j0 ≤ 126) then
      bif j0 != 34 then
        some (j0 != 92, ())
      else some (false, ())
    else some (false, ())
  else some (false, ()) := by kernel_rfl
theorem ref07_Plain_c (n : Nat) (j0 : Int) (y : Bool × Unit) (h : ref07_Plain_v n j0 = some y) : Contract Try.prog 52 [AV.dv (DV.val (Value.int IntKind.u8 j0))] [] (OSh.enc (OSh.plain (.b) []) y) :=
  auto_okM tm_std (with_ok mixed (by kernel_rfl) (ref07_Plain_σok n) n 0 []) (with_pick mixed (by kernel_rfl) (ref07_Plain_σok n) n 0 []) mixed Try.func52 (by decide) (o := (OSh.plain (.b) [])) h
/-! ref07_quote: function 33 -/
def ref07_quote_lv : Live := [(2, [0, 1, 4, 6], [4, 1000, 1001, 1002, 1003])]
noncomputable def ref07_quote_σ (n : Nat) : Spec := (inst 52 [.i IntKind.u8] [] (OSh.plain (.b) []) (fun x e => ref07_Plain_v n x.1) Spec.none)
theorem ref07_quote_σok (n : Nat) : SpecOk Try.prog (ref07_quote_σ n) := (inst_ok (fun x e y h => ref07_Plain_c n x.1 y h) (SpecOk.none _))
noncomputable def ref07_quote_Φ (n : Nat) : Orc := with_ Try.prog (ref07_quote_σ n) [] n 0 []
noncomputable def ref07_quote_v (n : Nat) (s0 : ByteArray) (j1 : Int) : Option (((Int × ByteArray × Int × Int × Unit) × Int × Unit) × Unit) :=
  DM.denFn tm (ref07_quote_Φ n) ref07_quote_lv n Try.f33 false [AV.dv (DV.val (Value.string s0)), AV.dv (DV.val (Value.int IntKind.i64 j1))] [] (OSh.chk (OSh.plain (.tup [.agg [.i IntKind.i64, .s, .i IntKind.i64, .i IntKind.i64], .i IntKind.i64]) []))
noncomputable def ref07_quote_l2 (n : Nat) (s0 : ByteArray) (j1 : Int) (i0 : Nat) (j3 : Int) : Option (((Int × ByteArray × Int × Int × Unit) × Int × Unit) × Unit) :=
  DM.loopFn tm (ref07_quote_Φ n) ref07_quote_lv n Try.f33 false [] (OSh.chk (OSh.plain (.tup [.agg [.i IntKind.i64, .s, .i IntKind.i64, .i IntKind.i64], .i IntKind.i64]) [])) 2 [] i0 (St.mk [AV.dv (DV.val (Value.string s0)), AV.dv (DV.val (Value.int IntKind.i64 j1)), AV.junk, AV.junk, AV.pl 4 0, AV.junk, AV.dv (DV.val (Value.int IntKind.i64 j3)), AV.junk, AV.junk, AV.junk, AV.junk, AV.junk, AV.junk, AV.junk, AV.junk, AV.junk, AV.junk, AV.junk, AV.junk, AV.junk, AV.junk, AV.junk, AV.junk, AV.junk, AV.junk, AV.junk, AV.junk, AV.junk, AV.junk, AV.junk, AV.junk, AV.junk, AV.junk, AV.junk, AV.junk, AV.junk, AV.junk, AV.junk, AV.junk, AV.junk, AV.junk] [(4, [AV.dv (DV.val (Value.int IntKind.i64 0)), AV.dv (DV.val (Value.string (ByteArray.mk #[]))), AV.dv (DV.val (Value.int IntKind.i64 0)), AV.dv (DV.val (Value.int IntKind.i64 0))])])
theorem ref07_quote_s2 (n : Nat) (s0 : ByteArray) (j1 : Int) (i0 : Nat) (j3 : Int) : ref07_quote_l2 n s0 j1 (i0 + 1) j3 =
  bif decide (j3 < (↑(ByteArray.size s0) : Int)) then
    if 0 ≤ j3 then
      if j3 < (↑(ByteArray.size s0) : Int) then
        obind (ref07_Plain_v n (bt s0 j3)) fun y4 =>
        bif y4.fst then
          ref07_quote_l2 n s0 j1 i0 (IntKind.wrap IntKind.i64 (j3 + 1))
        else bif decide (j3 ≥ (↑(ByteArray.size s0) : Int)) then
          some (((0, (ByteArray.mk #[], (0, (0, ())))), (-1, ())), ())
        else if 0 ≤ j3 then
          if j3 < (↑(ByteArray.size s0) : Int) then
            bif bt s0 j3 != 34 then
              some (((0, (ByteArray.mk #[], (0, (0, ())))), (-1, ())), ())
            else if 0 ≤ IntKind.wrap IntKind.i64 (j1 + 1) then
              if IntKind.wrap IntKind.i64 (j1 + 1) ≤ j3 then
                if j3 ≤ (↑(ByteArray.size s0) : Int) then
                  some (((4, (ByteArray.extract s0 (Int.toNat (IntKind.wrap IntKind.i64 (j1 + 1))) (Int.toNat j3), (0, (j1, ())))), (IntKind.wrap IntKind.i64 (j3 + 1), ())), ())
                else none
              else none
            else none
          else none
        else none
      else none
    else none
  else bif decide (j3 ≥ (↑(ByteArray.size s0) : Int)) then
    some (((0, (ByteArray.mk #[], (0, (0, ())))), (-1, ())), ())
  else if 0 ≤ j3 then
    if j3 < (↑(ByteArray.size s0) : Int) then
      bif bt s0 j3 != 34 then
        some (((0, (ByteArray.mk #[], (0, (0, ())))), (-1, ())), ())
      else if 0 ≤ IntKind.wrap IntKind.i64 (j1 + 1) then
        if IntKind.wrap IntKind.i64 (j1 + 1) ≤ j3 then
          if j3 ≤ (↑(ByteArray.size s0) : Int) then
            some (((4, (ByteArray.extract s0 (Int.toNat (IntKind.wrap IntKind.i64 (j1 + 1))) (Int.toNat j3), (0, (j1, ())))), (IntKind.wrap IntKind.i64 (j3 + 1), ())), ())
          else none
        else none
      else none
    else none
  else none := by kernel_rfl
theorem ref07_quote_e (n : Nat) (s0 : ByteArray) (j1 : Int) : ref07_quote_v n s0 j1 =
  ref07_quote_l2 n s0 j1 n (IntKind.wrap IntKind.i64 (j1 + 1)) := by kernel_rfl
theorem ref07_quote_c (n : Nat) (s0 : ByteArray) (j1 : Int) (y : ((Int × ByteArray × Int × Int × Unit) × Int × Unit) × Unit) (h : ref07_quote_v n s0 j1 = some y) : Contract Try.prog 33 [AV.dv (DV.val (Value.string s0)), AV.dv (DV.val (Value.int IntKind.i64 j1))] [] (OSh.enc (OSh.plain (.tup [.agg [.i IntKind.i64, .s, .i IntKind.i64, .i IntKind.i64], .i IntKind.i64]) []) y) :=
  auto_okM tm_std (with_ok mixed (by kernel_rfl) (ref07_quote_σok n) n 0 []) (with_pick mixed (by kernel_rfl) (ref07_quote_σok n) n 0 []) mixed Try.func33 (by decide) (o := (OSh.plain (.tup [.agg [.i IntKind.i64, .s, .i IntKind.i64, .i IntKind.i64], .i IntKind.i64]) [])) h
/-! ref07_Inner: function 30 -/
def ref07_Inner_lv : Live := []
noncomputable def ref07_Inner_σ (n : Nat) : Spec := (inst 28 [.i IntKind.u8] [] (OSh.plain (.b) []) (fun x e => ref07_small_v n x.1) (inst 29 [.i IntKind.u8] [] (OSh.plain (.b) []) (fun x e => ref07_great_v n x.1) (inst 31 [.i IntKind.u8] [] (OSh.plain (.b) []) (fun x e => ref07_digit_v n x.1) Spec.none)))
theorem ref07_Inner_σok (n : Nat) : SpecOk Try.prog (ref07_Inner_σ n) := (inst_ok (fun x e y h => ref07_small_c n x.1 y h) (inst_ok (fun x e y h => ref07_great_c n x.1 y h) (inst_ok (fun x e y h => ref07_digit_c n x.1 y h) (SpecOk.none _))))
noncomputable def ref07_Inner_Φ (n : Nat) : Orc := with_ Try.prog (ref07_Inner_σ n) [] n 0 []
noncomputable def ref07_Inner_v (n : Nat) (j0 : Int) : Option (Bool × Unit) :=
  DM.denFn tm (ref07_Inner_Φ n) ref07_Inner_lv n Try.f30 false [AV.dv (DV.val (Value.int IntKind.u8 j0))] [] (OSh.chk (OSh.plain (.b) []))
theorem ref07_Inner_e (n : Nat) (j0 : Int) : ref07_Inner_v n j0 =
  obind (ref07_small_v n j0) fun y1 =>
  bif y1.fst then
    some (true, ())
  else obind (ref07_great_v n j0) fun y2 =>
  bif y2.fst then
    some (true, ())
  else obind (ref07_digit_v n j0) fun y3 =>
  bif y3.fst then
    some (true, ())
  else some (j0 == 95, ()) := by kernel_rfl
theorem ref07_Inner_c (n : Nat) (j0 : Int) (y : Bool × Unit) (h : ref07_Inner_v n j0 = some y) : Contract Try.prog 30 [AV.dv (DV.val (Value.int IntKind.u8 j0))] [] (OSh.enc (OSh.plain (.b) []) y) :=
  auto_okM tm_std (with_ok mixed (by kernel_rfl) (ref07_Inner_σok n) n 0 []) (with_pick mixed (by kernel_rfl) (ref07_Inner_σok n) n 0 []) mixed Try.func30 (by decide) (o := (OSh.plain (.b) [])) h
/-! ref07_One: function 21 -/
def ref07_One_lv : Live := [(4, [0, 1, 4, 6, 7], [4, 1000, 1001, 1002, 1003])]
noncomputable def ref07_One_σ (n : Nat) : Spec := (inst 28 [.i IntKind.u8] [] (OSh.plain (.b) []) (fun x e => ref07_small_v n x.1) (inst 29 [.i IntKind.u8] [] (OSh.plain (.b) []) (fun x e => ref07_great_v n x.1) (inst 31 [.i IntKind.u8] [] (OSh.plain (.b) []) (fun x e => ref07_digit_v n x.1) (inst 32 [.s, .i IntKind.i64] [] (OSh.plain (.tup [.agg [.i IntKind.i64, .s, .i IntKind.i64, .i IntKind.i64], .i IntKind.i64]) []) (fun x e => ref07_number_v n x.1 x.2.1) (inst 33 [.s, .i IntKind.i64] [] (OSh.plain (.tup [.agg [.i IntKind.i64, .s, .i IntKind.i64, .i IntKind.i64], .i IntKind.i64]) []) (fun x e => ref07_quote_v n x.1 x.2.1) (inst 30 [.i IntKind.u8] [] (OSh.plain (.b) []) (fun x e => ref07_Inner_v n x.1) Spec.none))))))
theorem ref07_One_σok (n : Nat) : SpecOk Try.prog (ref07_One_σ n) := (inst_ok (fun x e y h => ref07_small_c n x.1 y h) (inst_ok (fun x e y h => ref07_great_c n x.1 y h) (inst_ok (fun x e y h => ref07_digit_c n x.1 y h) (inst_ok (fun x e y h => ref07_number_c n x.1 x.2.1 y h) (inst_ok (fun x e y h => ref07_quote_c n x.1 x.2.1 y h) (inst_ok (fun x e y h => ref07_Inner_c n x.1 y h) (SpecOk.none _)))))))
noncomputable def ref07_One_Φ (n : Nat) : Orc := with_ Try.prog (ref07_One_σ n) [] n 0 []
noncomputable def ref07_One_v (n : Nat) (s0 : ByteArray) (j1 : Int) : Option (((Int × ByteArray × Int × Int × Unit) × Int × Unit) × Unit) :=
  DM.denFn tm (ref07_One_Φ n) ref07_One_lv n Try.f21 false [AV.dv (DV.val (Value.string s0)), AV.dv (DV.val (Value.int IntKind.i64 j1))] [] (OSh.chk (OSh.plain (.tup [.agg [.i IntKind.i64, .s, .i IntKind.i64, .i IntKind.i64], .i IntKind.i64]) []))
noncomputable def ref07_One_l4 (n : Nat) (s0 : ByteArray) (j1 : Int) (i0 : Nat) (j11 : Int) : Option (((Int × ByteArray × Int × Int × Unit) × Int × Unit) × Unit) :=
  DM.loopFn tm (ref07_One_Φ n) ref07_One_lv n Try.f21 false [] (OSh.chk (OSh.plain (.tup [.agg [.i IntKind.i64, .s, .i IntKind.i64, .i IntKind.i64], .i IntKind.i64]) [])) 4 [] i0 (St.mk [AV.dv (DV.val (Value.string s0)), AV.dv (DV.val (Value.int IntKind.i64 j1)), AV.junk, AV.junk, AV.pl 4 0, AV.junk, AV.dv (DV.val (Value.int IntKind.u8 (bt s0 j1))), AV.dv (DV.val (Value.int IntKind.i64 j11)), AV.junk, AV.junk, AV.junk, AV.junk, AV.junk, AV.junk, AV.junk, AV.junk, AV.junk, AV.junk, AV.junk, AV.junk, AV.junk, AV.junk, AV.junk, AV.junk, AV.junk, AV.junk, AV.junk, AV.junk, AV.junk, AV.junk, AV.junk, AV.junk, AV.junk, AV.junk, AV.junk, AV.junk, AV.junk, AV.junk, AV.junk, AV.junk, AV.junk, AV.junk, AV.junk, AV.junk, AV.junk, AV.junk, AV.junk, AV.junk, AV.junk, AV.junk, AV.junk, AV.junk, AV.junk, AV.junk, AV.junk, AV.junk, AV.junk, AV.junk, AV.junk, AV.junk, AV.junk, AV.junk, AV.junk, AV.junk, AV.junk, AV.junk, AV.junk, AV.junk, AV.junk, AV.junk, AV.junk, AV.junk, AV.junk, AV.junk, AV.junk, AV.junk, AV.junk, AV.junk, AV.junk, AV.junk, AV.junk, AV.junk, AV.junk, AV.junk, AV.junk, AV.junk, AV.junk, AV.junk, AV.junk, AV.junk, AV.junk, AV.junk, AV.junk, AV.junk, AV.junk, AV.junk, AV.junk, AV.junk, AV.junk, AV.junk, AV.junk, AV.junk, AV.junk, AV.junk, AV.junk, AV.junk, AV.junk, AV.junk] [(4, [AV.dv (DV.val (Value.int IntKind.i64 0)), AV.dv (DV.val (Value.string (ByteArray.mk #[]))), AV.dv (DV.val (Value.int IntKind.i64 0)), AV.dv (DV.val (Value.int IntKind.i64 0))])])
theorem ref07_One_s4 (n : Nat) (s0 : ByteArray) (j1 : Int) (i0 : Nat) (j11 : Int) : ref07_One_l4 n s0 j1 (i0 + 1) j11 =
  bif decide (j11 < (↑(ByteArray.size s0) : Int)) then
    if 0 ≤ j11 then
      if j11 < (↑(ByteArray.size s0) : Int) then
        obind (ref07_Inner_v n (bt s0 j11)) fun y12 =>
        bif y12.fst then
          ref07_One_l4 n s0 j1 i0 (IntKind.wrap IntKind.i64 (j11 + 1))
        else if 0 ≤ j1 then
          if j1 ≤ j11 then
            if j11 ≤ (↑(ByteArray.size s0) : Int) then
              obind (ref07_great_v n (bt s0 j1)) fun y13 =>
              bif y13.fst then
                some (((2, (ByteArray.extract s0 (Int.toNat j1) (Int.toNat j11), (0, (j1, ())))), (j11, ())), ())
              else some (((1, (ByteArray.extract s0 (Int.toNat j1) (Int.toNat j11), (0, (j1, ())))), (j11, ())), ())
            else none
          else none
        else none
      else none
    else none
  else if 0 ≤ j1 then
    if j1 ≤ j11 then
      if j11 ≤ (↑(ByteArray.size s0) : Int) then
        obind (ref07_great_v n (bt s0 j1)) fun y14 =>
        bif y14.fst then
          some (((2, (ByteArray.extract s0 (Int.toNat j1) (Int.toNat j11), (0, (j1, ())))), (j11, ())), ())
        else some (((1, (ByteArray.extract s0 (Int.toNat j1) (Int.toNat j11), (0, (j1, ())))), (j11, ())), ())
      else none
    else none
  else none := by kernel_rfl
theorem ref07_One_e (n : Nat) (s0 : ByteArray) (j1 : Int) : ref07_One_v n s0 j1 =
  if 0 ≤ j1 then
    if j1 < (↑(ByteArray.size s0) : Int) then
      obind (ref07_small_v n (bt s0 j1)) fun y2 =>
      bif y2.fst then
        ref07_One_l4 n s0 j1 n j1
      else obind (ref07_great_v n (bt s0 j1)) fun y3 =>
      bif y3.fst then
        ref07_One_l4 n s0 j1 n j1
      else obind (ref07_digit_v n (bt s0 j1)) fun y4 =>
      bif y4.fst then
        obind (ref07_number_v n s0 j1) fun y5 =>
        some (((y5.fst.fst.fst, (y5.fst.fst.snd.fst, (y5.fst.fst.snd.snd.fst, (y5.fst.fst.snd.snd.snd.fst, ())))), (y5.fst.snd.fst, ())), ())
      else bif bt s0 j1 == 45 then
        obind (ref07_number_v n s0 j1) fun y6 =>
        some (((y6.fst.fst.fst, (y6.fst.fst.snd.fst, (y6.fst.fst.snd.snd.fst, (y6.fst.fst.snd.snd.snd.fst, ())))), (y6.fst.snd.fst, ())), ())
      else bif bt s0 j1 == 34 then
        obind (ref07_quote_v n s0 j1) fun y7 =>
        some (((y7.fst.fst.fst, (y7.fst.fst.snd.fst, (y7.fst.fst.snd.snd.fst, (y7.fst.fst.snd.snd.snd.fst, ())))), (y7.fst.snd.fst, ())), ())
      else bif bt s0 j1 == 58 then
        bif decide (IntKind.wrap IntKind.i64 (j1 + 1) < (↑(ByteArray.size s0) : Int)) then
          if 0 ≤ IntKind.wrap IntKind.i64 (j1 + 1) then
            if IntKind.wrap IntKind.i64 (j1 + 1) < (↑(ByteArray.size s0) : Int) then
              bif bt s0 (IntKind.wrap IntKind.i64 (j1 + 1)) == 45 then
                some (((5, (ByteArray.mk #[58, 45], (0, (j1, ())))), (IntKind.wrap IntKind.i64 (j1 + 2), ())), ())
              else bif bt s0 j1 == 40 then
                if 0 ≤ j1 then
                  if j1 ≤ IntKind.wrap IntKind.i64 (j1 + 1) then
                    if IntKind.wrap IntKind.i64 (j1 + 1) ≤ (↑(ByteArray.size s0) : Int) then
                      some (((5, (ByteArray.extract s0 (Int.toNat j1) (Int.toNat (IntKind.wrap IntKind.i64 (j1 + 1))), (0, (j1, ())))), (IntKind.wrap IntKind.i64 (j1 + 1), ())), ())
                    else none
                  else none
                else none
              else bif bt s0 j1 == 41 then
                if 0 ≤ j1 then
                  if j1 ≤ IntKind.wrap IntKind.i64 (j1 + 1) then
                    if IntKind.wrap IntKind.i64 (j1 + 1) ≤ (↑(ByteArray.size s0) : Int) then
                      some (((5, (ByteArray.extract s0 (Int.toNat j1) (Int.toNat (IntKind.wrap IntKind.i64 (j1 + 1))), (0, (j1, ())))), (IntKind.wrap IntKind.i64 (j1 + 1), ())), ())
                    else none
                  else none
                else none
              else bif bt s0 j1 == 44 then
                if 0 ≤ j1 then
                  if j1 ≤ IntKind.wrap IntKind.i64 (j1 + 1) then
                    if IntKind.wrap IntKind.i64 (j1 + 1) ≤ (↑(ByteArray.size s0) : Int) then
                      some (((5, (ByteArray.extract s0 (Int.toNat j1) (Int.toNat (IntKind.wrap IntKind.i64 (j1 + 1))), (0, (j1, ())))), (IntKind.wrap IntKind.i64 (j1 + 1), ())), ())
                    else none
                  else none
                else none
              else bif bt s0 j1 == 46 then
                if 0 ≤ j1 then
                  if j1 ≤ IntKind.wrap IntKind.i64 (j1 + 1) then
                    if IntKind.wrap IntKind.i64 (j1 + 1) ≤ (↑(ByteArray.size s0) : Int) then
                      some (((5, (ByteArray.extract s0 (Int.toNat j1) (Int.toNat (IntKind.wrap IntKind.i64 (j1 + 1))), (0, (j1, ())))), (IntKind.wrap IntKind.i64 (j1 + 1), ())), ())
                    else none
                  else none
                else none
              else bif bt s0 j1 == 58 then
                if 0 ≤ j1 then
                  if j1 ≤ IntKind.wrap IntKind.i64 (j1 + 1) then
                    if IntKind.wrap IntKind.i64 (j1 + 1) ≤ (↑(ByteArray.size s0) : Int) then
                      some (((5, (ByteArray.extract s0 (Int.toNat j1) (Int.toNat (IntKind.wrap IntKind.i64 (j1 + 1))), (0, (j1, ())))), (IntKind.wrap IntKind.i64 (j1 + 1), ())), ())
                    else none
                  else none
                else none
              else some (((0, (ByteArray.mk #[], (0, (0, ())))), (-1, ())), ())
            else none
          else none
        else bif bt s0 j1 == 40 then
          if 0 ≤ j1 then
            if j1 ≤ IntKind.wrap IntKind.i64 (j1 + 1) then
              if IntKind.wrap IntKind.i64 (j1 + 1) ≤ (↑(ByteArray.size s0) : Int) then
                some (((5, (ByteArray.extract s0 (Int.toNat j1) (Int.toNat (IntKind.wrap IntKind.i64 (j1 + 1))), (0, (j1, ())))), (IntKind.wrap IntKind.i64 (j1 + 1), ())), ())
              else none
            else none
          else none
        else bif bt s0 j1 == 41 then
          if 0 ≤ j1 then
            if j1 ≤ IntKind.wrap IntKind.i64 (j1 + 1) then
              if IntKind.wrap IntKind.i64 (j1 + 1) ≤ (↑(ByteArray.size s0) : Int) then
                some (((5, (ByteArray.extract s0 (Int.toNat j1) (Int.toNat (IntKind.wrap IntKind.i64 (j1 + 1))), (0, (j1, ())))), (IntKind.wrap IntKind.i64 (j1 + 1), ())), ())
              else none
            else none
          else none
        else bif bt s0 j1 == 44 then
          if 0 ≤ j1 then
            if j1 ≤ IntKind.wrap IntKind.i64 (j1 + 1) then
              if IntKind.wrap IntKind.i64 (j1 + 1) ≤ (↑(ByteArray.size s0) : Int) then
                some (((5, (ByteArray.extract s0 (Int.toNat j1) (Int.toNat (IntKind.wrap IntKind.i64 (j1 + 1))), (0, (j1, ())))), (IntKind.wrap IntKind.i64 (j1 + 1), ())), ())
              else none
            else none
          else none
        else bif bt s0 j1 == 46 then
          if 0 ≤ j1 then
            if j1 ≤ IntKind.wrap IntKind.i64 (j1 + 1) then
              if IntKind.wrap IntKind.i64 (j1 + 1) ≤ (↑(ByteArray.size s0) : Int) then
                some (((5, (ByteArray.extract s0 (Int.toNat j1) (Int.toNat (IntKind.wrap IntKind.i64 (j1 + 1))), (0, (j1, ())))), (IntKind.wrap IntKind.i64 (j1 + 1), ())), ())
              else none
            else none
          else none
        else bif bt s0 j1 == 58 then
          if 0 ≤ j1 then
            if j1 ≤ IntKind.wrap IntKind.i64 (j1 + 1) then
              if IntKind.wrap IntKind.i64 (j1 + 1) ≤ (↑(ByteArray.size s0) : Int) then
                some (((5, (ByteArray.extract s0 (Int.toNat j1) (Int.toNat (IntKind.wrap IntKind.i64 (j1 + 1))), (0, (j1, ())))), (IntKind.wrap IntKind.i64 (j1 + 1), ())), ())
              else none
            else none
          else none
        else some (((0, (ByteArray.mk #[], (0, (0, ())))), (-1, ())), ())
      else bif bt s0 j1 == 40 then
        if 0 ≤ j1 then
          if j1 ≤ IntKind.wrap IntKind.i64 (j1 + 1) then
            if IntKind.wrap IntKind.i64 (j1 + 1) ≤ (↑(ByteArray.size s0) : Int) then
              some (((5, (ByteArray.extract s0 (Int.toNat j1) (Int.toNat (IntKind.wrap IntKind.i64 (j1 + 1))), (0, (j1, ())))), (IntKind.wrap IntKind.i64 (j1 + 1), ())), ())
            else none
          else none
        else none
      else bif bt s0 j1 == 41 then
        if 0 ≤ j1 then
          if j1 ≤ IntKind.wrap IntKind.i64 (j1 + 1) then
            if IntKind.wrap IntKind.i64 (j1 + 1) ≤ (↑(ByteArray.size s0) : Int) then
              some (((5, (ByteArray.extract s0 (Int.toNat j1) (Int.toNat (IntKind.wrap IntKind.i64 (j1 + 1))), (0, (j1, ())))), (IntKind.wrap IntKind.i64 (j1 + 1), ())), ())
            else none
          else none
        else none
      else bif bt s0 j1 == 44 then
        if 0 ≤ j1 then
          if j1 ≤ IntKind.wrap IntKind.i64 (j1 + 1) then
            if IntKind.wrap IntKind.i64 (j1 + 1) ≤ (↑(ByteArray.size s0) : Int) then
              some (((5, (ByteArray.extract s0 (Int.toNat j1) (Int.toNat (IntKind.wrap IntKind.i64 (j1 + 1))), (0, (j1, ())))), (IntKind.wrap IntKind.i64 (j1 + 1), ())), ())
            else none
          else none
        else none
      else bif bt s0 j1 == 46 then
        if 0 ≤ j1 then
          if j1 ≤ IntKind.wrap IntKind.i64 (j1 + 1) then
            if IntKind.wrap IntKind.i64 (j1 + 1) ≤ (↑(ByteArray.size s0) : Int) then
              some (((5, (ByteArray.extract s0 (Int.toNat j1) (Int.toNat (IntKind.wrap IntKind.i64 (j1 + 1))), (0, (j1, ())))), (IntKind.wrap IntKind.i64 (j1 + 1), ())), ())
            else none
          else none
        else none
      else bif bt s0 j1 == 58 then
        if 0 ≤ j1 then
          if j1 ≤ IntKind.wrap IntKind.i64 (j1 + 1) then
            if IntKind.wrap IntKind.i64 (j1 + 1) ≤ (↑(ByteArray.size s0) : Int) then
              some (((5, (ByteArray.extract s0 (Int.toNat j1) (Int.toNat (IntKind.wrap IntKind.i64 (j1 + 1))), (0, (j1, ())))), (IntKind.wrap IntKind.i64 (j1 + 1), ())), ())
            else none
          else none
        else none
      else some (((0, (ByteArray.mk #[], (0, (0, ())))), (-1, ())), ())
    else none
  else none := by kernel_rfl
theorem ref07_One_c (n : Nat) (s0 : ByteArray) (j1 : Int) (y : ((Int × ByteArray × Int × Int × Unit) × Int × Unit) × Unit) (h : ref07_One_v n s0 j1 = some y) : Contract Try.prog 21 [AV.dv (DV.val (Value.string s0)), AV.dv (DV.val (Value.int IntKind.i64 j1))] [] (OSh.enc (OSh.plain (.tup [.agg [.i IntKind.i64, .s, .i IntKind.i64, .i IntKind.i64], .i IntKind.i64]) []) y) :=
  auto_okM tm_std (with_ok mixed (by kernel_rfl) (ref07_One_σok n) n 0 []) (with_pick mixed (by kernel_rfl) (ref07_One_σok n) n 0 []) mixed Try.func21 (by decide) (o := (OSh.plain (.tup [.agg [.i IntKind.i64, .s, .i IntKind.i64, .i IntKind.i64], .i IntKind.i64]) [])) h
/-! ref07_Tokens: function 15 -/
def ref07_Tokens_lv : Live := [(5, [0, 5, 6], [1000, 1001, 1002, 1003])]
noncomputable def ref07_Tokens_σ (n : Nat) : Spec := (inst 20 [.s, .i IntKind.i64] [] (OSh.plain (.i IntKind.i64) []) (fun x e => ref07_Skip_v n x.1 x.2.1) (inst 21 [.s, .i IntKind.i64] [] (OSh.plain (.tup [.agg [.i IntKind.i64, .s, .i IntKind.i64, .i IntKind.i64], .i IntKind.i64]) []) (fun x e => ref07_One_v n x.1 x.2.1) Spec.none))
theorem ref07_Tokens_σok (n : Nat) : SpecOk Try.prog (ref07_Tokens_σ n) := (inst_ok (fun x e y h => ref07_Skip_c n x.1 x.2.1 y h) (inst_ok (fun x e y h => ref07_One_c n x.1 x.2.1 y h) (SpecOk.none _)))
noncomputable def ref07_Tokens_Φ (n : Nat) : Orc := with_ Try.prog (ref07_Tokens_σ n) [] n 0 []
noncomputable def ref07_Tokens_v (n : Nat) (s0 : ByteArray) : Option (((Bool × Rows) × Int × Int × Unit) × Unit) :=
  DM.denFn tm (ref07_Tokens_Φ n) ref07_Tokens_lv n Try.f15 false [AV.dv (DV.val (Value.string s0))] [] (OSh.chk (OSh.plain (.tup [.sl [Kd.i IntKind.i64, Kd.s, Kd.i IntKind.i64, Kd.i IntKind.i64], .i IntKind.i64, .i IntKind.i64]) []))
noncomputable def ref07_Tokens_l5 (n : Nat) (s0 : ByteArray) (i0 : Nat) (j2 : Int) (b5 : Bool) (r6 : List (List DV)) : Option (((Bool × Rows) × Int × Int × Unit) × Unit) :=
  DM.loopFn tm (ref07_Tokens_Φ n) ref07_Tokens_lv n Try.f15 false [] (OSh.chk (OSh.plain (.tup [.sl [Kd.i IntKind.i64, Kd.s, Kd.i IntKind.i64, Kd.i IntKind.i64], .i IntKind.i64, .i IntKind.i64]) [])) 5 [] i0 (St.mk [AV.dv (DV.val (Value.string s0)), AV.junk, AV.junk, AV.junk, AV.junk, AV.sl b5 [Kd.i IntKind.i64, Kd.s, Kd.i IntKind.i64, Kd.i IntKind.i64] r6 (Right.tok 5), AV.dv (DV.val (Value.int IntKind.i64 j2)), AV.junk, AV.junk, AV.junk, AV.junk, AV.junk, AV.junk, AV.junk, AV.junk, AV.junk, AV.junk, AV.junk, AV.junk, AV.junk, AV.junk, AV.junk, AV.junk, AV.junk, AV.junk, AV.junk, AV.junk, AV.junk, AV.junk, AV.junk, AV.junk, AV.junk, AV.junk, AV.junk, AV.junk, AV.junk, AV.junk, AV.junk, AV.junk, AV.junk] [])
theorem ref07_Tokens_s5 (n : Nat) (s0 : ByteArray) (i0 : Nat) (j2 : Int) (b5 : Bool) (r6 : List (List DV)) : ref07_Tokens_l5 n s0 (i0 + 1) j2 b5 r6 =
  bif decide (j2 < (↑(ByteArray.size s0) : Int)) then
    obind (ref07_One_v n s0 j2) fun y7 =>
    bif decide (y7.fst.snd.fst < 0) then
      some (((true, []), (j2, (70, ()))), ())
    else bif decide ((↑(ByteArray.size y7.fst.fst.snd.fst) : Int) > 32) then
      some (((true, []), (j2, (71, ()))), ())
    else if (List.length r6 + List.length [[DV.val (Value.int IntKind.i64 y7.fst.fst.fst), DV.val (Value.string y7.fst.fst.snd.fst), DV.val (Value.int IntKind.i64 y7.fst.fst.snd.snd.fst), DV.val (Value.int IntKind.i64 y7.fst.fst.snd.snd.snd.fst)]]) * 40 ≤ 140737488355328 then
      obind (ref07_Skip_v n s0 y7.fst.snd.fst) fun y8 =>
      ref07_Tokens_l5 n s0 i0 y8.fst (b5 && List.isEmpty [[DV.val (Value.int IntKind.i64 y7.fst.fst.fst), DV.val (Value.string y7.fst.fst.snd.fst), DV.val (Value.int IntKind.i64 y7.fst.fst.snd.snd.fst), DV.val (Value.int IntKind.i64 y7.fst.fst.snd.snd.snd.fst)]]) (appX r6 [[DV.val (Value.int IntKind.i64 y7.fst.fst.fst), DV.val (Value.string y7.fst.fst.snd.fst), DV.val (Value.int IntKind.i64 y7.fst.fst.snd.snd.fst), DV.val (Value.int IntKind.i64 y7.fst.fst.snd.snd.snd.fst)]])
    else none
  else some (((b5, r6), (0, (0, ()))), ()) := by kernel_rfl
theorem ref07_Tokens_e (n : Nat) (s0 : ByteArray) : ref07_Tokens_v n s0 =
  bif decide ((↑(ByteArray.size s0) : Int) > 4096) then
    some (((true, []), (0, (3, ()))), ())
  else obind (ref07_Skip_v n s0 0) fun y1 =>
  ref07_Tokens_l5 n s0 n y1.fst true [] := by kernel_rfl
theorem ref07_Tokens_c (n : Nat) (s0 : ByteArray) (y : ((Bool × Rows) × Int × Int × Unit) × Unit) (h : ref07_Tokens_v n s0 = some y) : Contract Try.prog 15 [AV.dv (DV.val (Value.string s0))] [] (OSh.enc (OSh.plain (.tup [.sl [Kd.i IntKind.i64, Kd.s, Kd.i IntKind.i64, Kd.i IntKind.i64], .i IntKind.i64, .i IntKind.i64]) []) y) :=
  auto_okM tm_std (with_ok mixed (by kernel_rfl) (ref07_Tokens_σok n) n 0 []) (with_pick mixed (by kernel_rfl) (ref07_Tokens_σok n) n 0 []) mixed Try.func15 (by decide) (o := (OSh.plain (.tup [.sl [Kd.i IntKind.i64, Kd.s, Kd.i IntKind.i64, Kd.i IntKind.i64], .i IntKind.i64, .i IntKind.i64]) [])) h
/-! ref08_Parser_ok: function 38 -/
def ref08_Parser_ok_lv : Live := []
noncomputable def ref08_Parser_ok_σ (n : Nat) : Spec := Spec.none
theorem ref08_Parser_ok_σok (n : Nat) : SpecOk Try.prog (ref08_Parser_ok_σ n) := (SpecOk.none _)
noncomputable def ref08_Parser_ok_Φ (n : Nat) : Orc := with_ Try.prog (ref08_Parser_ok_σ n) [] n 0 []
noncomputable def ref08_Parser_ok_v (n : Nat) (b0 : Bool) (r1 : Rows) (j2 : Int) (j3 : Int) (j4 : Int) : Option (Bool × ((Bool × Rows) × Int × Int × Int × Unit) × Unit) :=
  DM.denFn tm (ref08_Parser_ok_Φ n) ref08_Parser_ok_lv n Try.f38 false [AV.pl 1000 0] [[AV.sl b0 [Kd.i IntKind.i64, Kd.s, Kd.i IntKind.i64, Kd.i IntKind.i64] r1 Right.no, AV.dv (DV.val (Value.int IntKind.i64 j2)), AV.dv (DV.val (Value.int IntKind.i64 j3)), AV.dv (DV.val (Value.int IntKind.i64 j4))]] (OSh.chk (OSh.plain (.b) [[.sl [Kd.i IntKind.i64, Kd.s, Kd.i IntKind.i64, Kd.i IntKind.i64], .i IntKind.i64, .i IntKind.i64, .i IntKind.i64]]))
theorem ref08_Parser_ok_e (n : Nat) (b0 : Bool) (r1 : Rows) (j2 : Int) (j3 : Int) (j4 : Int) : ref08_Parser_ok_v n b0 r1 j2 j3 j4 =
  some (j3 == 0, (((b0, r1), (j2, (j3, (j4, ())))), ())) := by kernel_rfl
theorem ref08_Parser_ok_c (n : Nat) (b0 : Bool) (r1 : Rows) (j2 : Int) (j3 : Int) (j4 : Int) (y : Bool × ((Bool × Rows) × Int × Int × Int × Unit) × Unit) (h : ref08_Parser_ok_v n b0 r1 j2 j3 j4 = some y) : Contract Try.prog 38 [AV.pl 1000 0] [[AV.sl b0 [Kd.i IntKind.i64, Kd.s, Kd.i IntKind.i64, Kd.i IntKind.i64] r1 Right.no, AV.dv (DV.val (Value.int IntKind.i64 j2)), AV.dv (DV.val (Value.int IntKind.i64 j3)), AV.dv (DV.val (Value.int IntKind.i64 j4))]] (OSh.enc (OSh.plain (.b) [[.sl [Kd.i IntKind.i64, Kd.s, Kd.i IntKind.i64, Kd.i IntKind.i64], .i IntKind.i64, .i IntKind.i64, .i IntKind.i64]]) y) :=
  auto_okM tm_std (with_ok mixed (by kernel_rfl) (ref08_Parser_ok_σok n) n 0 []) (with_pick mixed (by kernel_rfl) (ref08_Parser_ok_σok n) n 0 []) mixed Try.func38 (by decide) (o := (OSh.plain (.b) [[.sl [Kd.i IntKind.i64, Kd.s, Kd.i IntKind.i64, Kd.i IntKind.i64], .i IntKind.i64, .i IntKind.i64, .i IntKind.i64]])) h
/-! ref08_Parser_next: function 61 -/
def ref08_Parser_next_lv : Live := []
noncomputable def ref08_Parser_next_σ (n : Nat) : Spec := Spec.none
theorem ref08_Parser_next_σok (n : Nat) : SpecOk Try.prog (ref08_Parser_next_σ n) := (SpecOk.none _)
noncomputable def ref08_Parser_next_Φ (n : Nat) : Orc := with_ Try.prog (ref08_Parser_next_σ n) [] n 0 []
noncomputable def ref08_Parser_next_v (n : Nat) (b0 : Bool) (r1 : Rows) (j2 : Int) (j3 : Int) (j4 : Int) : Option ((Int × ByteArray × Int × Int × Unit) × ((Bool × Rows) × Int × Int × Int × Unit) × Unit) :=
  DM.denFn tm (ref08_Parser_next_Φ n) ref08_Parser_next_lv n Try.f61 false [AV.pl 1000 0] [[AV.sl b0 [Kd.i IntKind.i64, Kd.s, Kd.i IntKind.i64, Kd.i IntKind.i64] r1 Right.no, AV.dv (DV.val (Value.int IntKind.i64 j2)), AV.dv (DV.val (Value.int IntKind.i64 j3)), AV.dv (DV.val (Value.int IntKind.i64 j4))]] (OSh.chk (OSh.plain (.agg [.i IntKind.i64, .s, .i IntKind.i64, .i IntKind.i64]) [[.sl [Kd.i IntKind.i64, Kd.s, Kd.i IntKind.i64, Kd.i IntKind.i64], .i IntKind.i64, .i IntKind.i64, .i IntKind.i64]]))
theorem ref08_Parser_next_e (n : Nat) (b0 : Bool) (r1 : Rows) (j2 : Int) (j3 : Int) (j4 : Int) : ref08_Parser_next_v n b0 r1 j2 j3 j4 =
  bif (↑(List.length r1) : Int) == 0 then
    some ((0, (ByteArray.mk #[], (0, (j2, ())))), (((b0, r1), (j2, (j3, (j4, ())))), ()))
  else if 0 < (↑(List.length r1) : Int) then
    some ((Row.I (List.getD r1 0 []) 0, (Row.S (List.getD r1 0 []) 1, (Row.I (List.getD r1 0 []) 2, (Row.I (List.getD r1 0 []) 3, ())))), (((b0, r1), (j2, (j3, (j4, ())))), ()))
  else none := by kernel_rfl
theorem ref08_Parser_next_c (n : Nat) (b0 : Bool) (r1 : Rows) (j2 : Int) (j3 : Int) (j4 : Int) (y : (Int × ByteArray × Int × Int × Unit) × ((Bool × Rows) × Int × Int × Int × Unit) × Unit) (h : ref08_Parser_next_v n b0 r1 j2 j3 j4 = some y) : Contract Try.prog 61 [AV.pl 1000 0] [[AV.sl b0 [Kd.i IntKind.i64, Kd.s, Kd.i IntKind.i64, Kd.i IntKind.i64] r1 Right.no, AV.dv (DV.val (Value.int IntKind.i64 j2)), AV.dv (DV.val (Value.int IntKind.i64 j3)), AV.dv (DV.val (Value.int IntKind.i64 j4))]] (OSh.enc (OSh.plain (.agg [.i IntKind.i64, .s, .i IntKind.i64, .i IntKind.i64]) [[.sl [Kd.i IntKind.i64, Kd.s, Kd.i IntKind.i64, Kd.i IntKind.i64], .i IntKind.i64, .i IntKind.i64, .i IntKind.i64]]) y) :=
  auto_okM tm_std (with_ok mixed (by kernel_rfl) (ref08_Parser_next_σok n) n 0 []) (with_pick mixed (by kernel_rfl) (ref08_Parser_next_σok n) n 0 []) mixed Try.func61 (by decide) (o := (OSh.plain (.agg [.i IntKind.i64, .s, .i IntKind.i64, .i IntKind.i64]) [[.sl [Kd.i IntKind.i64, Kd.s, Kd.i IntKind.i64, Kd.i IntKind.i64], .i IntKind.i64, .i IntKind.i64, .i IntKind.i64]])) h
/-! ref08_Kept: function 62 -/
def ref08_Kept_lv : Live := []
noncomputable def ref08_Kept_σ (n : Nat) : Spec := Spec.none
theorem ref08_Kept_σok (n : Nat) : SpecOk Try.prog (ref08_Kept_σ n) := (SpecOk.none _)
noncomputable def ref08_Kept_Φ (n : Nat) : Orc := with_ Try.prog (ref08_Kept_σ n) [] n 0 []
noncomputable def ref08_Kept_v (n : Nat) (s0 : ByteArray) : Option (Bool × Unit) :=
  DM.denFn tm (ref08_Kept_Φ n) ref08_Kept_lv n Try.f62 false [AV.dv (DV.val (Value.string s0))] [] (OSh.chk (OSh.plain (.b) []))
theorem ref08_Kept_e (n : Nat) (s0 : ByteArray) : ref08_Kept_v n s0 =
  bif s0 == ByteArray.mk #[115, 97, 121, 115] then
    some (true, ())
  else bif s0 == ByteArray.mk #[116, 111] then
    some (true, ())
  else some (s0 == ByteArray.mk #[97, 116], ()) := by kernel_rfl
theorem ref08_Kept_c (n : Nat) (s0 : ByteArray) (y : Bool × Unit) (h : ref08_Kept_v n s0 = some y) : Contract Try.prog 62 [AV.dv (DV.val (Value.string s0))] [] (OSh.enc (OSh.plain (.b) []) y) :=
  auto_okM tm_std (with_ok mixed (by kernel_rfl) (ref08_Kept_σok n) n 0 []) (with_pick mixed (by kernel_rfl) (ref08_Kept_σok n) n 0 []) mixed Try.func62 (by decide) (o := (OSh.plain (.b) [])) h
end Go.Den
