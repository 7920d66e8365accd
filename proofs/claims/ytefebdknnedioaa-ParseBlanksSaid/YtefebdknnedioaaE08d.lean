import Derived.Test.YtefebdknnedioaaE08c
set_option linter.unusedVariables false
set_option linter.unusedSimpArgs false
set_option linter.unusedSectionVars false
namespace Go.Den
open Go.Proofs
set_option maxRecDepth 100000
/-! ref08_Program: function 23 -/
def ref08_Program_lv : Live := [(6, [8, 9], [24, 1000, 1001, 1002, 1003])]
noncomputable def ref08_Program_σ (n : Nat) : Spec := (inst 15 [.s] [] (OSh.plain (.tup [.sl [Kd.i IntKind.i64, Kd.s, Kd.i IntKind.i64, Kd.i IntKind.i64], .i IntKind.i64, .i IntKind.i64]) []) (fun x e => ref07_Tokens_v n x.1) (inst 38 [.pl 1000 0] [[.sl [Kd.i IntKind.i64, Kd.s, Kd.i IntKind.i64, Kd.i IntKind.i64], .i IntKind.i64, .i IntKind.i64, .i IntKind.i64]] (OSh.plain (.b) [[.sl [Kd.i IntKind.i64, Kd.s, Kd.i IntKind.i64, Kd.i IntKind.i64], .i IntKind.i64, .i IntKind.i64, .i IntKind.i64]]) (fun x e => ref08_Parser_ok_v n e.1.1.1 e.1.1.2 e.1.2.1 e.1.2.2.1 e.1.2.2.2.1) (inst 39 [.pl 1000 0] [[.sl [Kd.i IntKind.i64, Kd.s, Kd.i IntKind.i64, Kd.i IntKind.i64], .i IntKind.i64, .i IntKind.i64, .i IntKind.i64]] (OSh.plain (.b) [[.sl [Kd.i IntKind.i64, Kd.s, Kd.i IntKind.i64, Kd.i IntKind.i64], .i IntKind.i64, .i IntKind.i64, .i IntKind.i64]]) (fun x e => ref08_Parser_begins_v n e.1.1.1 e.1.1.2 e.1.2.1 e.1.2.2.1 e.1.2.2.2.1) (inst 41 [.pl 1000 0] [[.sl [Kd.i IntKind.i64, Kd.s, Kd.i IntKind.i64, Kd.i IntKind.i64], .i IntKind.i64, .i IntKind.i64, .i IntKind.i64]] (OSh.plain (.agg [.s, .b, .i IntKind.i64, .s, .s, .sl [Kd.s, Kd.b, Kd.i IntKind.i64, Kd.s], .s, .b, .i IntKind.i64, .s, .sl [Kd.s, Kd.b, Kd.i IntKind.i64, Kd.s, Kd.s, Kd.sl [Kd.s, Kd.b, Kd.i IntKind.i64, Kd.s], Kd.s, Kd.b, Kd.i IntKind.i64, Kd.s]]) [[.sl [Kd.i IntKind.i64, Kd.s, Kd.i IntKind.i64, Kd.i IntKind.i64], .i IntKind.i64, .i IntKind.i64, .i IntKind.i64]]) (fun x e => ref08_Parser_rule_v n e.1.1.1 e.1.1.2 e.1.2.1 e.1.2.2.1 e.1.2.2.2.1) (inst 40 [.pl 1000 0, .i IntKind.i64] [[.sl [Kd.i IntKind.i64, Kd.s, Kd.i IntKind.i64, Kd.i IntKind.i64], .i IntKind.i64, .i IntKind.i64, .i IntKind.i64]] (OSh.plain (.tup []) [[.sl [Kd.i IntKind.i64, Kd.s, Kd.i IntKind.i64, Kd.i IntKind.i64], .i IntKind.i64, .i IntKind.i64, .i IntKind.i64]]) (fun x e => ref08_Parser_fail_v n x.2.1 e.1.1.1 e.1.1.2 e.1.2.1 e.1.2.2.1 e.1.2.2.2.1) Spec.none)))))
theorem ref08_Program_σok (n : Nat) : SpecOk Try.prog (ref08_Program_σ n) := (inst_ok (fun x e y h => ref07_Tokens_c n x.1 y h) (inst_ok (fun x e y h => ref08_Parser_ok_c n e.1.1.1 e.1.1.2 e.1.2.1 e.1.2.2.1 e.1.2.2.2.1 y h) (inst_ok (fun x e y h => ref08_Parser_begins_c n e.1.1.1 e.1.1.2 e.1.2.1 e.1.2.2.1 e.1.2.2.2.1 y h) (inst_ok (fun x e y h => ref08_Parser_rule_c n e.1.1.1 e.1.1.2 e.1.2.1 e.1.2.2.1 e.1.2.2.2.1 y h) (inst_ok (fun x e y h => ref08_Parser_fail_c n x.2.1 e.1.1.1 e.1.1.2 e.1.2.1 e.1.2.2.1 e.1.2.2.2.1 y h) (SpecOk.none _))))))
noncomputable def ref08_Program_Φ (n : Nat) : Orc := with_ Try.prog (ref08_Program_σ n) [] n 0 []
noncomputable def ref08_Program_v (n : Nat) (s0 : ByteArray) : Option (((Bool × Rows) × Int × Int × Unit) × Unit) :=
  DM.denFn tm (ref08_Program_Φ n) ref08_Program_lv n Try.f23 true [AV.dv (DV.val (Value.string s0))] [] (OSh.chk (OSh.plain (.tup [.slt [Kd.s, Kd.b, Kd.i IntKind.i64, Kd.s, Kd.s, Kd.sl [Kd.s, Kd.b, Kd.i IntKind.i64, Kd.s], Kd.s, Kd.b, Kd.i IntKind.i64, Kd.s, Kd.sl [Kd.s, Kd.b, Kd.i IntKind.i64, Kd.s, Kd.s, Kd.sl [Kd.s, Kd.b, Kd.i IntKind.i64, Kd.s], Kd.s, Kd.b, Kd.i IntKind.i64, Kd.s]] 0, .i IntKind.i64, .i IntKind.i64]) []))
noncomputable def ref08_Program_l6 (n : Nat) (s0 : ByteArray) (i0 : Nat) (b2 : Bool) (r3 : List (List DV)) (b10 : Bool) (r11 : List (List DV)) (j12 : Int) (j13 : Int) (j14 : Int) : Option (((Bool × Rows) × Int × Int × Unit) × Unit) :=
  DM.loopFn tm (ref08_Program_Φ n) ref08_Program_lv n Try.f23 true [] (OSh.chk (OSh.plain (.tup [.slt [Kd.s, Kd.b, Kd.i IntKind.i64, Kd.s, Kd.s, Kd.sl [Kd.s, Kd.b, Kd.i IntKind.i64, Kd.s], Kd.s, Kd.b, Kd.i IntKind.i64, Kd.s, Kd.sl [Kd.s, Kd.b, Kd.i IntKind.i64, Kd.s, Kd.s, Kd.sl [Kd.s, Kd.b, Kd.i IntKind.i64, Kd.s], Kd.s, Kd.b, Kd.i IntKind.i64, Kd.s]] 0, .i IntKind.i64, .i IntKind.i64]) [])) 6 [] i0 (St.mk [AV.junk, AV.junk, AV.junk, AV.junk, AV.junk, AV.junk, AV.junk, AV.junk, AV.pl 24 0, AV.sl b10 [Kd.s, Kd.b, Kd.i IntKind.i64, Kd.s, Kd.s, Kd.sl [Kd.s, Kd.b, Kd.i IntKind.i64, Kd.s], Kd.s, Kd.b, Kd.i IntKind.i64, Kd.s, Kd.sl [Kd.s, Kd.b, Kd.i IntKind.i64, Kd.s, Kd.s, Kd.sl [Kd.s, Kd.b, Kd.i IntKind.i64, Kd.s], Kd.s, Kd.b, Kd.i IntKind.i64, Kd.s]] r11 (Right.tok 9), AV.junk, AV.junk, AV.junk, AV.junk, AV.junk, AV.junk, AV.junk, AV.junk, AV.junk, AV.junk, AV.junk, AV.junk, AV.junk, AV.junk, AV.junk, AV.junk, AV.junk, AV.junk, AV.junk, AV.junk, AV.junk, AV.junk, AV.junk, AV.junk, AV.junk, AV.junk, AV.junk, AV.junk, AV.junk, AV.junk, AV.junk, AV.junk, AV.junk, AV.junk, AV.junk, AV.junk, AV.junk, AV.junk, AV.junk, AV.junk, AV.junk, AV.junk, AV.junk, AV.junk, AV.junk, AV.junk, AV.junk, AV.junk, AV.junk, AV.junk, AV.junk] [(24, [AV.sl b2 [Kd.i IntKind.i64, Kd.s, Kd.i IntKind.i64, Kd.i IntKind.i64] r3 Right.no, AV.dv (DV.val (Value.int IntKind.i64 j12)), AV.dv (DV.val (Value.int IntKind.i64 j13)), AV.dv (DV.val (Value.int IntKind.i64 j14))])])
theorem ref08_Program_s6 (n : Nat) (s0 : ByteArray) (i0 : Nat) (b2 : Bool) (r3 : List (List DV)) (b10 : Bool) (r11 : List (List DV)) (j12 : Int) (j13 : Int) (j14 : Int) : ref08_Program_l6 n s0 (i0 + 1) b2 r3 b10 r11 j12 j13 j14 =
  obind (ref08_Parser_ok_v n b2 r3 j12 j13 j14) fun y15 =>
  bif y15.fst then
    bif decide ((↑(List.length y15.snd.fst.fst.snd) : Int) > 0) then
      obind (ref08_Parser_begins_v n y15.snd.fst.fst.fst y15.snd.fst.fst.snd y15.snd.fst.snd.fst y15.snd.fst.snd.snd.fst y15.snd.fst.snd.snd.snd.fst) fun y16 =>
      bif y16.fst then
        bif (↑(List.length r11) : Int) == 16 then
          obind (ref08_Parser_fail_v n 81 y16.snd.fst.fst.fst y16.snd.fst.fst.snd y16.snd.fst.snd.fst y16.snd.fst.snd.snd.fst y16.snd.fst.snd.snd.snd.fst) fun y17 =>
          obind (ref08_Parser_rule_v n y17.snd.fst.fst.fst y17.snd.fst.fst.snd y17.snd.fst.snd.fst y17.snd.fst.snd.snd.fst y17.snd.fst.snd.snd.snd.fst) fun y18 =>
          if (List.length r11 + List.length [[DV.val (Value.string y18.fst.fst), DV.val (Value.bool y18.fst.snd.fst), DV.val (Value.int IntKind.i64 y18.fst.snd.snd.fst), DV.val (Value.string y18.fst.snd.snd.snd.fst), DV.val (Value.string y18.fst.snd.snd.snd.snd.fst), DV.sl y18.fst.snd.snd.snd.snd.snd.fst.fst [Kd.s, Kd.b, Kd.i IntKind.i64, Kd.s] y18.fst.snd.snd.snd.snd.snd.fst.snd, DV.val (Value.string y18.fst.snd.snd.snd.snd.snd.snd.fst), DV.val (Value.bool y18.fst.snd.snd.snd.snd.snd.snd.snd.fst), DV.val (Value.int IntKind.i64 y18.fst.snd.snd.snd.snd.snd.snd.snd.snd.fst), DV.val (Value.string y18.fst.snd.snd.snd.snd.snd.snd.snd.snd.snd.fst), DV.sl y18.fst.snd.snd.snd.snd.snd.snd.snd.snd.snd.snd.fst.fst [Kd.s, Kd.b, Kd.i IntKind.i64, Kd.s, Kd.s, Kd.sl [Kd.s, Kd.b, Kd.i IntKind.i64, Kd.s], Kd.s, Kd.b, Kd.i IntKind.i64, Kd.s] y18.fst.snd.snd.snd.snd.snd.snd.snd.snd.snd.snd.fst.snd]]) * 160 ≤ 140737488355328 then
            ref08_Program_l6 n s0 i0 y18.snd.fst.fst.fst y18.snd.fst.fst.snd (b10 && List.isEmpty [[DV.val (Value.string y18.fst.fst), DV.val (Value.bool y18.fst.snd.fst), DV.val (Value.int IntKind.i64 y18.fst.snd.snd.fst), DV.val (Value.string y18.fst.snd.snd.snd.fst), DV.val (Value.string y18.fst.snd.snd.snd.snd.fst), DV.sl y18.fst.snd.snd.snd.snd.snd.fst.fst [Kd.s, Kd.b, Kd.i IntKind.i64, Kd.s] y18.fst.snd.snd.snd.snd.snd.fst.snd, DV.val (Value.string y18.fst.snd.snd.snd.snd.snd.snd.fst), DV.val (Value.bool y18.fst.snd.snd.snd.snd.snd.snd.snd.fst), DV.val (Value.int IntKind.i64 y18.fst.snd.snd.snd.snd.snd.snd.snd.snd.fst), DV.val (Value.string y18.fst.snd.snd.snd.snd.snd.snd.snd.snd.snd.fst), DV.sl y18.fst.snd.snd.snd.snd.snd.snd.snd.snd.snd.snd.fst.fst [Kd.s, Kd.b, Kd.i IntKind.i64, Kd.s, Kd.s, Kd.sl [Kd.s, Kd.b, Kd.i IntKind.i64, Kd.s], Kd.s, Kd.b, Kd.i IntKind.i64, Kd.s] y18.fst.snd.snd.snd.snd.snd.snd.snd.snd.snd.snd.fst.snd]]) (appX r11 [[DV.val (Value.string y18.fst.fst), DV.val (Value.bool y18.fst.snd.fst), DV.val (Value.int IntKind.i64 y18.fst.snd.snd.fst), DV.val (Value.string y18.fst.snd.snd.snd.fst), DV.val (Value.string y18.fst.snd.snd.snd.snd.fst), DV.sl y18.fst.snd.snd.snd.snd.snd.fst.fst [Kd.s, Kd.b, Kd.i IntKind.i64, Kd.s] y18.fst.snd.snd.snd.snd.snd.fst.snd, DV.val (Value.string y18.fst.snd.snd.snd.snd.snd.snd.fst), DV.val (Value.bool y18.fst.snd.snd.snd.snd.snd.snd.snd.fst), DV.val (Value.int IntKind.i64 y18.fst.snd.snd.snd.snd.snd.snd.snd.snd.fst), DV.val (Value.string y18.fst.snd.snd.snd.snd.snd.snd.snd.snd.snd.fst), DV.sl y18.fst.snd.snd.snd.snd.snd.snd.snd.snd.snd.snd.fst.fst [Kd.s, Kd.b, Kd.i IntKind.i64, Kd.s, Kd.s, Kd.sl [Kd.s, Kd.b, Kd.i IntKind.i64, Kd.s], Kd.s, Kd.b, Kd.i IntKind.i64, Kd.s] y18.fst.snd.snd.snd.snd.snd.snd.snd.snd.snd.snd.fst.snd]]) y18.snd.fst.snd.fst y18.snd.fst.snd.snd.fst y18.snd.fst.snd.snd.snd.fst
          else none
        else obind (ref08_Parser_rule_v n y16.snd.fst.fst.fst y16.snd.fst.fst.snd y16.snd.fst.snd.fst y16.snd.fst.snd.snd.fst y16.snd.fst.snd.snd.snd.fst) fun y19 =>
        if (List.length r11 + List.length [[DV.val (Value.string y19.fst.fst), DV.val (Value.bool y19.fst.snd.fst), DV.val (Value.int IntKind.i64 y19.fst.snd.snd.fst), DV.val (Value.string y19.fst.snd.snd.snd.fst), DV.val (Value.string y19.fst.snd.snd.snd.snd.fst), DV.sl y19.fst.snd.snd.snd.snd.snd.fst.fst [Kd.s, Kd.b, Kd.i IntKind.i64, Kd.s] y19.fst.snd.snd.snd.snd.snd.fst.snd, DV.val (Value.string y19.fst.snd.snd.snd.snd.snd.snd.fst), DV.val (Value.bool y19.fst.snd.snd.snd.snd.snd.snd.snd.fst), DV.val (Value.int IntKind.i64 y19.fst.snd.snd.snd.snd.snd.snd.snd.snd.fst), DV.val (Value.string y19.fst.snd.snd.snd.snd.snd.snd.snd.snd.snd.fst), DV.sl y19.fst.snd.snd.snd.snd.snd.snd.snd.snd.snd.snd.fst.fst [Kd.s, Kd.b, Kd.i IntKind.i64, Kd.s, Kd.s, Kd.sl [Kd.s, Kd.b, Kd.i IntKind.i64, Kd.s], Kd.s, Kd.b, Kd.i IntKind.i64, Kd.s] y19.fst.snd.snd.snd.snd.snd.snd.snd.snd.snd.snd.fst.snd]]) * 160 ≤ 140737488355328 then
          ref08_Program_l6 n s0 i0 y19.snd.fst.fst.fst y19.snd.fst.fst.snd (b10 && List.isEmpty [[DV.val (Value.string y19.fst.fst), DV.val (Value.bool y19.fst.snd.fst), DV.val (Value.int IntKind.i64 y19.fst.snd.snd.fst), DV.val (Value.string y19.fst.snd.snd.snd.fst), DV.val (Value.string y19.fst.snd.snd.snd.snd.fst), DV.sl y19.fst.snd.snd.snd.snd.snd.fst.fst [Kd.s, Kd.b, Kd.i IntKind.i64, Kd.s] y19.fst.snd.snd.snd.snd.snd.fst.snd, DV.val (Value.string y19.fst.snd.snd.snd.snd.snd.snd.fst), DV.val (Value.bool y19.fst.snd.snd.snd.snd.snd.snd.snd.fst), DV.val (Value.int IntKind.i64 y19.fst.snd.snd.snd.snd.snd.snd.snd.snd.fst), DV.val (Value.string y19.fst.snd.snd.snd.snd.snd.snd.snd.snd.snd.fst), DV.sl y19.fst.snd.snd.snd.snd.snd.snd.snd.snd.snd.snd.fst.fst [Kd.s, Kd.b, Kd.i IntKind.i64, Kd.s, Kd.s, Kd.sl [Kd.s, Kd.b, Kd.i IntKind.i64, Kd.s], Kd.s, Kd.b, Kd.i IntKind.i64, Kd.s] y19.fst.snd.snd.snd.snd.snd.snd.snd.snd.snd.snd.fst.snd]]) (appX r11 [[DV.val (Value.string y19.fst.fst), DV.val (Value.bool y19.fst.snd.fst), DV.val (Value.int IntKind.i64 y19.fst.snd.snd.fst), DV.val (Value.string y19.fst.snd.snd.snd.fst), DV.val (Value.string y19.fst.snd.snd.snd.snd.fst), DV.sl y19.fst.snd.snd.snd.snd.snd.fst.fst [Kd.s, Kd.b, Kd.i IntKind.i64, Kd.s] y19.fst.snd.snd.snd.snd.snd.fst.snd, DV.val (Value.string y19.fst.snd.snd.snd.snd.snd.snd.fst), DV.val (Value.bool y19.fst.snd.snd.snd.snd.snd.snd.snd.fst), DV.val (Value.int IntKind.i64 y19.fst.snd.snd.snd.snd.snd.snd.snd.snd.fst), DV.val (Value.string y19.fst.snd.snd.snd.snd.snd.snd.snd.snd.snd.fst), DV.sl y19.fst.snd.snd.snd.snd.snd.snd.snd.snd.snd.snd.fst.fst [Kd.s, Kd.b, Kd.i IntKind.i64, Kd.s, Kd.s, Kd.sl [Kd.s, Kd.b, Kd.i IntKind.i64, Kd.s], Kd.s, Kd.b, Kd.i IntKind.i64, Kd.s] y19.fst.snd.snd.snd.snd.snd.snd.snd.snd.snd.snd.fst.snd]]) y19.snd.fst.snd.fst y19.snd.fst.snd.snd.fst y19.snd.fst.snd.snd.snd.fst
        else none
      else obind (ref08_Parser_rule_v n y16.snd.fst.fst.fst y16.snd.fst.fst.snd y16.snd.fst.snd.fst y16.snd.fst.snd.snd.fst y16.snd.fst.snd.snd.snd.fst) fun y20 =>
      if (List.length r11 + List.length [[DV.val (Value.string y20.fst.fst), DV.val (Value.bool y20.fst.snd.fst), DV.val (Value.int IntKind.i64 y20.fst.snd.snd.fst), DV.val (Value.string y20.fst.snd.snd.snd.fst), DV.val (Value.string y20.fst.snd.snd.snd.snd.fst), DV.sl y20.fst.snd.snd.snd.snd.snd.fst.fst [Kd.s, Kd.b, Kd.i IntKind.i64, Kd.s] y20.fst.snd.snd.snd.snd.snd.fst.snd, DV.val (Value.string y20.fst.snd.snd.snd.snd.snd.snd.fst), DV.val (Value.bool y20.fst.snd.snd.snd.snd.snd.snd.snd.fst), DV.val (Value.int IntKind.i64 y20.fst.snd.snd.snd.snd.snd.snd.snd.snd.fst), DV.val (Value.string y20.fst.snd.snd.snd.snd.snd.snd.snd.snd.snd.fst), DV.sl y20.fst.snd.snd.snd.snd.snd.snd.snd.snd.snd.snd.fst.fst [Kd.s, Kd.b, Kd.i IntKind.i64, Kd.s, Kd.s, Kd.sl [Kd.s, Kd.b, Kd.i IntKind.i64, Kd.s], Kd.s, Kd.b, Kd.i IntKind.i64, Kd.s] y20.fst.snd.snd.snd.snd.snd.snd.snd.snd.snd.snd.fst.snd]]) * 160 ≤ 140737488355328 then
        ref08_Program_l6 n s0 i0 y20.snd.fst.fst.fst y20.snd.fst.fst.snd (b10 && List.isEmpty [[DV.val (Value.string y20.fst.fst), DV.val (Value.bool y20.fst.snd.fst), DV.val (Value.int IntKind.i64 y20.fst.snd.snd.fst), DV.val (Value.string y20.fst.snd.snd.snd.fst), DV.val (Value.string y20.fst.snd.snd.snd.snd.fst), DV.sl y20.fst.snd.snd.snd.snd.snd.fst.fst [Kd.s, Kd.b, Kd.i IntKind.i64, Kd.s] y20.fst.snd.snd.snd.snd.snd.fst.snd, DV.val (Value.string y20.fst.snd.snd.snd.snd.snd.snd.fst), DV.val (Value.bool y20.fst.snd.snd.snd.snd.snd.snd.snd.fst), DV.val (Value.int IntKind.i64 y20.fst.snd.snd.snd.snd.snd.snd.snd.snd.fst), DV.val (Value.string y20.fst.snd.snd.snd.snd.snd.snd.snd.snd.snd.fst), DV.sl y20.fst.snd.snd.snd.snd.snd.snd.snd.snd.snd.snd.fst.fst [Kd.s, Kd.b, Kd.i IntKind.i64, Kd.s, Kd.s, Kd.sl [Kd.s, Kd.b, Kd.i IntKind.i64, Kd.s], Kd.s, Kd.b, Kd.i IntKind.i64, Kd.s] y20.fst.snd.snd.snd.snd.snd.snd.snd.snd.snd.snd.fst.snd]]) (appX r11 [[DV.val (Value.string y20.fst.fst), DV.val (Value.bool y20.fst.snd.fst), DV.val (Value.int IntKind.i64 y20.fst.snd.snd.fst), DV.val (Value.string y20.fst.snd.snd.snd.fst), DV.val (Value.string y20.fst.snd.snd.snd.snd.fst), DV.sl y20.fst.snd.snd.snd.snd.snd.fst.fst [Kd.s, Kd.b, Kd.i IntKind.i64, Kd.s] y20.fst.snd.snd.snd.snd.snd.fst.snd, DV.val (Value.string y20.fst.snd.snd.snd.snd.snd.snd.fst), DV.val (Value.bool y20.fst.snd.snd.snd.snd.snd.snd.snd.fst), DV.val (Value.int IntKind.i64 y20.fst.snd.snd.snd.snd.snd.snd.snd.snd.fst), DV.val (Value.string y20.fst.snd.snd.snd.snd.snd.snd.snd.snd.snd.fst), DV.sl y20.fst.snd.snd.snd.snd.snd.snd.snd.snd.snd.snd.fst.fst [Kd.s, Kd.b, Kd.i IntKind.i64, Kd.s, Kd.s, Kd.sl [Kd.s, Kd.b, Kd.i IntKind.i64, Kd.s], Kd.s, Kd.b, Kd.i IntKind.i64, Kd.s] y20.fst.snd.snd.snd.snd.snd.snd.snd.snd.snd.snd.fst.snd]]) y20.snd.fst.snd.fst y20.snd.fst.snd.snd.fst y20.snd.fst.snd.snd.snd.fst
      else none
    else obind (ref08_Parser_ok_v n y15.snd.fst.fst.fst y15.snd.fst.fst.snd y15.snd.fst.snd.fst y15.snd.fst.snd.snd.fst y15.snd.fst.snd.snd.snd.fst) fun y21 =>
    bif !y21.fst then
      some (((true, []), (y21.snd.fst.snd.snd.snd.fst, (y21.snd.fst.snd.snd.fst, ()))), ())
    else some (((b10, r11), (0, (0, ()))), ())
  else obind (ref08_Parser_ok_v n y15.snd.fst.fst.fst y15.snd.fst.fst.snd y15.snd.fst.snd.fst y15.snd.fst.snd.snd.fst y15.snd.fst.snd.snd.snd.fst) fun y22 =>
  bif !y22.fst then
    some (((true, []), (y22.snd.fst.snd.snd.snd.fst, (y22.snd.fst.snd.snd.fst, ()))), ())
  else some (((b10, r11), (0, (0, ()))), ()) := by kernel_rfl
theorem ref08_Program_e (n : Nat) (s0 : ByteArray) : ref08_Program_v n s0 =
  obind (ref07_Tokens_v n s0) fun y1 =>
  bif y1.fst.snd.snd.fst != 0 then
    some (((true, []), (y1.fst.snd.fst, (y1.fst.snd.snd.fst, ()))), ())
  else ref08_Program_l6 n s0 n y1.fst.fst.fst y1.fst.fst.snd true [] ((↑(ByteArray.size s0) : Int)) 0 0 := by kernel_rfl
theorem ref08_Program_c (n : Nat) (s0 : ByteArray) (y : ((Bool × Rows) × Int × Int × Unit) × Unit) (h : ref08_Program_v n s0 = some y) : Contract Try.prog 23 [AV.dv (DV.val (Value.string s0))] [] (OSh.enc (OSh.plain (.tup [.slt [Kd.s, Kd.b, Kd.i IntKind.i64, Kd.s, Kd.s, Kd.sl [Kd.s, Kd.b, Kd.i IntKind.i64, Kd.s], Kd.s, Kd.b, Kd.i IntKind.i64, Kd.s, Kd.sl [Kd.s, Kd.b, Kd.i IntKind.i64, Kd.s, Kd.s, Kd.sl [Kd.s, Kd.b, Kd.i IntKind.i64, Kd.s], Kd.s, Kd.b, Kd.i IntKind.i64, Kd.s]] 0, .i IntKind.i64, .i IntKind.i64]) []) y) :=
  auto_okM tm_std (with_ok mixed (by kernel_rfl) (ref08_Program_σok n) n 0 []) (with_pick mixed (by kernel_rfl) (ref08_Program_σok n) n 0 []) mixed Try.func23 (by decide) (o := (OSh.plain (.tup [.slt [Kd.s, Kd.b, Kd.i IntKind.i64, Kd.s, Kd.s, Kd.sl [Kd.s, Kd.b, Kd.i IntKind.i64, Kd.s], Kd.s, Kd.b, Kd.i IntKind.i64, Kd.s, Kd.sl [Kd.s, Kd.b, Kd.i IntKind.i64, Kd.s, Kd.s, Kd.sl [Kd.s, Kd.b, Kd.i IntKind.i64, Kd.s], Kd.s, Kd.b, Kd.i IntKind.i64, Kd.s]] 0, .i IntKind.i64, .i IntKind.i64]) [])) h
/-! ref05_Terms: function 70 -/
def ref05_Terms_lv : Live := [(4, [0, 1, 5], [1000, 1001, 1002, 1003])]
noncomputable def ref05_Terms_σ (n : Nat) : Spec := Spec.none
theorem ref05_Terms_σok (n : Nat) : SpecOk Try.prog (ref05_Terms_σ n) := (SpecOk.none _)
noncomputable def ref05_Terms_Φ (n : Nat) : Orc := with_ Try.prog (ref05_Terms_σ n) [] n 0 []
noncomputable def ref05_Terms_v (n : Nat) (b0 : Bool) (r1 : Rows) (b2 : Bool) (r3 : Rows) : Option (Bool × Unit) :=
  DM.denFn tm (ref05_Terms_Φ n) ref05_Terms_lv n Try.f70 false [AV.sl b0 [Kd.s, Kd.b, Kd.i IntKind.i64, Kd.s] r1 Right.no, AV.sl b2 [Kd.s, Kd.b, Kd.i IntKind.i64, Kd.s] r3 Right.no] [] (OSh.chk (OSh.plain (.b) []))
noncomputable def ref05_Terms_l4 (n : Nat) (b0 : Bool) (r1 : Rows) (b2 : Bool) (r3 : Rows) (i0 : Nat) (j4 : Int) : Option (Bool × Unit) :=
  DM.loopFn tm (ref05_Terms_Φ n) ref05_Terms_lv n Try.f70 false [] (OSh.chk (OSh.plain (.b) [])) 4 [] i0 (St.mk [AV.sl b0 [Kd.s, Kd.b, Kd.i IntKind.i64, Kd.s] r1 Right.no, AV.sl b2 [Kd.s, Kd.b, Kd.i IntKind.i64, Kd.s] r3 Right.no, AV.junk, AV.junk, AV.junk, AV.dv (DV.val (Value.int IntKind.i64 j4)), AV.junk, AV.junk, AV.junk, AV.junk, AV.junk, AV.junk, AV.junk, AV.junk, AV.junk, AV.junk, AV.junk, AV.junk, AV.junk, AV.junk, AV.junk, AV.junk, AV.junk, AV.junk, AV.junk, AV.junk] [])
theorem ref05_Terms_s4 (n : Nat) (b0 : Bool) (r1 : Rows) (b2 : Bool) (r3 : Rows) (i0 : Nat) (j4 : Int) : ref05_Terms_l4 n b0 r1 b2 r3 (i0 + 1) j4 =
  bif decide (j4 < (↑(List.length r1) : Int)) then
    if 0 ≤ j4 then
      if j4 < (↑(List.length r1) : Int) then
        if 0 ≤ j4 then
          if j4 < (↑(List.length r3) : Int) then
            bif !(Row.S (List.getD r1 (Int.toNat j4) []) 0 == Row.S (List.getD r3 (Int.toNat j4) []) 0 && (Row.B (List.getD r1 (Int.toNat j4) []) 1 == Row.B (List.getD r3 (Int.toNat j4) []) 1 && (Row.I (List.getD r1 (Int.toNat j4) []) 2 == Row.I (List.getD r3 (Int.toNat j4) []) 2 && (Row.S (List.getD r1 (Int.toNat j4) []) 3 == Row.S (List.getD r3 (Int.toNat j4) []) 3 && true)))) then
              some (false, ())
            else ref05_Terms_l4 n b0 r1 b2 r3 i0 (IntKind.wrap IntKind.i64 (j4 + 1))
          else none
        else none
      else none
    else none
  else some (true, ()) := by kernel_rfl
theorem ref05_Terms_e (n : Nat) (b0 : Bool) (r1 : Rows) (b2 : Bool) (r3 : Rows) : ref05_Terms_v n b0 r1 b2 r3 =
  bif (↑(List.length r1) : Int) != (↑(List.length r3) : Int) then
    some (false, ())
  else ref05_Terms_l4 n b0 r1 b2 r3 n 0 := by kernel_rfl
theorem ref05_Terms_c (n : Nat) (b0 : Bool) (r1 : Rows) (b2 : Bool) (r3 : Rows) (y : Bool × Unit) (h : ref05_Terms_v n b0 r1 b2 r3 = some y) : Contract Try.prog 70 [AV.sl b0 [Kd.s, Kd.b, Kd.i IntKind.i64, Kd.s] r1 Right.no, AV.sl b2 [Kd.s, Kd.b, Kd.i IntKind.i64, Kd.s] r3 Right.no] [] (OSh.enc (OSh.plain (.b) []) y) :=
  auto_okM tm_std (with_ok mixed (by kernel_rfl) (ref05_Terms_σok n) n 0 []) (with_pick mixed (by kernel_rfl) (ref05_Terms_σok n) n 0 []) mixed Try.func70 (by decide) (o := (OSh.plain (.b) [])) h
/-! ref05_SameRule: function 42 -/
def ref05_SameRule_lv : Live := [(4, [2, 3, 5], [2, 3, 1000, 1001, 1002, 1003])]
noncomputable def ref05_SameRule_σ (n : Nat) : Spec := (inst 70 [.sl [Kd.s, Kd.b, Kd.i IntKind.i64, Kd.s], .sl [Kd.s, Kd.b, Kd.i IntKind.i64, Kd.s]] [] (OSh.plain (.b) []) (fun x e => ref05_Terms_v n x.1.1 x.1.2 x.2.1.1 x.2.1.2) Spec.none)
theorem ref05_SameRule_σok (n : Nat) : SpecOk Try.prog (ref05_SameRule_σ n) := (inst_ok (fun x e y h => ref05_Terms_c n x.1.1 x.1.2 x.2.1.1 x.2.1.2 y h) (SpecOk.none _))
noncomputable def ref05_SameRule_Φ (n : Nat) : Orc := with_ Try.prog (ref05_SameRule_σ n) [] n 0 []
noncomputable def ref05_SameRule_v (n : Nat) (s0 : ByteArray) (b1 : Bool) (j2 : Int) (s3 : ByteArray) (s4 : ByteArray) (b5 : Bool) (r6 : Rows) (s7 : ByteArray) (b8 : Bool) (j9 : Int) (s10 : ByteArray) (b11 : Bool) (r12 : Rows) (s13 : ByteArray) (b14 : Bool) (j15 : Int) (s16 : ByteArray) (s17 : ByteArray) (b18 : Bool) (r19 : Rows) (s20 : ByteArray) (b21 : Bool) (j22 : Int) (s23 : ByteArray) (b24 : Bool) (r25 : Rows) : Option (Bool × Unit) :=
  DM.denFn tm (ref05_SameRule_Φ n) ref05_SameRule_lv n Try.f42 false [AV.agg [AV.dv (DV.val (Value.string s0)), AV.dv (DV.val (Value.bool b1)), AV.dv (DV.val (Value.int IntKind.i64 j2)), AV.dv (DV.val (Value.string s3)), AV.dv (DV.val (Value.string s4)), AV.sl b5 [Kd.s, Kd.b, Kd.i IntKind.i64, Kd.s] r6 Right.no, AV.dv (DV.val (Value.string s7)), AV.dv (DV.val (Value.bool b8)), AV.dv (DV.val (Value.int IntKind.i64 j9)), AV.dv (DV.val (Value.string s10)), AV.sl b11 [Kd.s, Kd.b, Kd.i IntKind.i64, Kd.s, Kd.s, Kd.sl [Kd.s, Kd.b, Kd.i IntKind.i64, Kd.s], Kd.s, Kd.b, Kd.i IntKind.i64, Kd.s] r12 Right.no], AV.agg [AV.dv (DV.val (Value.string s13)), AV.dv (DV.val (Value.bool b14)), AV.dv (DV.val (Value.int IntKind.i64 j15)), AV.dv (DV.val (Value.string s16)), AV.dv (DV.val (Value.string s17)), AV.sl b18 [Kd.s, Kd.b, Kd.i IntKind.i64, Kd.s] r19 Right.no, AV.dv (DV.val (Value.string s20)), AV.dv (DV.val (Value.bool b21)), AV.dv (DV.val (Value.int IntKind.i64 j22)), AV.dv (DV.val (Value.string s23)), AV.sl b24 [Kd.s, Kd.b, Kd.i IntKind.i64, Kd.s, Kd.s, Kd.sl [Kd.s, Kd.b, Kd.i IntKind.i64, Kd.s], Kd.s, Kd.b, Kd.i IntKind.i64, Kd.s] r25 Right.no]] [] (OSh.chk (OSh.plain (.b) []))
noncomputable def ref05_SameRule_l4 (n : Nat) (s0 : ByteArray) (b1 : Bool) (j2 : Int) (s3 : ByteArray) (s4 : ByteArray) (b5 : Bool) (r6 : Rows) (s7 : ByteArray) (b8 : Bool) (j9 : Int) (s10 : ByteArray) (b11 : Bool) (r12 : Rows) (s13 : ByteArray) (b14 : Bool) (j15 : Int) (s16 : ByteArray) (s17 : ByteArray) (b18 : Bool) (r19 : Rows) (s20 : ByteArray) (b21 : Bool) (j22 : Int) (s23 : ByteArray) (b24 : Bool) (r25 : Rows) (i0 : Nat) (j28 : Int) : Option (Bool × Unit) :=
  DM.loopFn tm (ref05_SameRule_Φ n) ref05_SameRule_lv n Try.f42 false [] (OSh.chk (OSh.plain (.b) [])) 4 [] i0 (St.mk [AV.junk, AV.junk, AV.pl 2 0, AV.pl 3 0, AV.junk, AV.dv (DV.val (Value.int IntKind.i64 j28)), AV.junk, AV.junk, AV.junk, AV.junk, AV.junk, AV.junk, AV.junk, AV.junk, AV.junk, AV.junk, AV.junk, AV.junk, AV.junk, AV.junk, AV.junk, AV.junk, AV.junk, AV.junk, AV.junk, AV.junk, AV.junk, AV.junk, AV.junk, AV.junk, AV.junk, AV.junk, AV.junk, AV.junk, AV.junk, AV.junk, AV.junk, AV.junk, AV.junk, AV.junk, AV.junk, AV.junk, AV.junk, AV.junk, AV.junk, AV.junk, AV.junk, AV.junk, AV.junk, AV.junk, AV.junk, AV.junk, AV.junk, AV.junk, AV.junk, AV.junk, AV.junk, AV.junk, AV.junk, AV.junk, AV.junk, AV.junk, AV.junk, AV.junk, AV.junk, AV.junk, AV.junk, AV.junk, AV.junk, AV.junk, AV.junk, AV.junk, AV.junk, AV.junk, AV.junk, AV.junk, AV.junk, AV.junk, AV.junk, AV.junk, AV.junk, AV.junk, AV.junk, AV.junk, AV.junk, AV.junk, AV.junk, AV.junk] [(2, [AV.dv (DV.val (Value.string s0)), AV.dv (DV.val (Value.bool b1)), AV.dv (DV.val (Value.int IntKind.i64 j2)), AV.dv (DV.val (Value.string s3)), AV.dv (DV.val (Value.string s4)), AV.sl b5 [Kd.s, Kd.b, Kd.i IntKind.i64, Kd.s] r6 Right.no, AV.dv (DV.val (Value.string s7)), AV.dv (DV.val (Value.bool b8)), AV.dv (DV.val (Value.int IntKind.i64 j9)), AV.dv (DV.val (Value.string s10)), AV.sl b11 [Kd.s, Kd.b, Kd.i IntKind.i64, Kd.s, Kd.s, Kd.sl [Kd.s, Kd.b, Kd.i IntKind.i64, Kd.s], Kd.s, Kd.b, Kd.i IntKind.i64, Kd.s] r12 Right.no]), (3, [AV.dv (DV.val (Value.string s13)), AV.dv (DV.val (Value.bool b14)), AV.dv (DV.val (Value.int IntKind.i64 j15)), AV.dv (DV.val (Value.string s16)), AV.dv (DV.val (Value.string s17)), AV.sl b18 [Kd.s, Kd.b, Kd.i IntKind.i64, Kd.s] r19 Right.no, AV.dv (DV.val (Value.string s20)), AV.dv (DV.val (Value.bool b21)), AV.dv (DV.val (Value.int IntKind.i64 j22)), AV.dv (DV.val (Value.string s23)), AV.sl b24 [Kd.s, Kd.b, Kd.i IntKind.i64, Kd.s, Kd.s, Kd.sl [Kd.s, Kd.b, Kd.i IntKind.i64, Kd.s], Kd.s, Kd.b, Kd.i IntKind.i64, Kd.s] r25 Right.no])])
theorem ref05_SameRule_s4 (n : Nat) (s0 : ByteArray) (b1 : Bool) (j2 : Int) (s3 : ByteArray) (s4 : ByteArray) (b5 : Bool) (r6 : Rows) (s7 : ByteArray) (b8 : Bool) (j9 : Int) (s10 : ByteArray) (b11 : Bool) (r12 : Rows) (s13 : ByteArray) (b14 : Bool) (j15 : Int) (s16 : ByteArray) (s17 : ByteArray) (b18 : Bool) (r19 : Rows) (s20 : ByteArray) (b21 : Bool) (j22 : Int) (s23 : ByteArray) (b24 : Bool) (r25 : Rows) (i0 : Nat) (j28 : Int) : ref05_SameRule_l4 n s0 b1 j2 s3 s4 b5 r6 s7 b8 j9 s10 b11 r12 s13 b14 j15 s16 s17 b18 r19 s20 b21 j22 s23 b24 r25 (i0 + 1) j28 =
  bif decide (j28 < (↑(List.length r12) : Int)) then
    if 0 ≤ j28 then
      if j28 < (↑(List.length r12) : Int) then
        if 0 ≤ j28 then
          if j28 < (↑(List.length r25) : Int) then
            bif !(Row.S (List.getD r12 (Int.toNat j28) []) 0 == Row.S (List.getD r25 (Int.toNat j28) []) 0 && (Row.B (List.getD r12 (Int.toNat j28) []) 1 == Row.B (List.getD r25 (Int.toNat j28) []) 1 && (Row.I (List.getD r12 (Int.toNat j28) []) 2 == Row.I (List.getD r25 (Int.toNat j28) []) 2 && (Row.S (List.getD r12 (Int.toNat j28) []) 3 == Row.S (List.getD r25 (Int.toNat j28) []) 3 && true)))) then
              some (false, ())
            else bif !Row.S (List.getD r12 (Int.toNat j28) []) 4 == Row.S (List.getD r25 (Int.toNat j28) []) 4 then
              some (false, ())
            else bif !(Row.S (List.getD r12 (Int.toNat j28) []) 6 == Row.S (List.getD r25 (Int.toNat j28) []) 6 && (Row.B (List.getD r12 (Int.toNat j28) []) 7 == Row.B (List.getD r25 (Int.toNat j28) []) 7 && (Row.I (List.getD r12 (Int.toNat j28) []) 8 == Row.I (List.getD r25 (Int.toNat j28) []) 8 && (Row.S (List.getD r12 (Int.toNat j28) []) 9 == Row.S (List.getD r25 (Int.toNat j28) []) 9 && true)))) then
              some (false, ())
            else obind (ref05_Terms_v n (Row.N (List.getD r12 (Int.toNat j28) []) 5) (Row.R (List.getD r12 (Int.toNat j28) []) 5) (Row.N (List.getD r25 (Int.toNat j28) []) 5) (Row.R (List.getD r25 (Int.toNat j28) []) 5)) fun y29 =>
            bif !y29.fst then
              some (false, ())
            else ref05_SameRule_l4 n s0 b1 j2 s3 s4 b5 r6 s7 b8 j9 s10 b11 r12 s13 b14 j15 s16 s17 b18 r19 s20 b21 j22 s23 b24 r25 i0 (IntKind.wrap IntKind.i64 (j28 + 1))
          else none
        else none
      else none
    else none
  else some (true, ()) := by kernel_rfl
theorem ref05_SameRule_e (n : Nat) (s0 : ByteArray) (b1 : Bool) (j2 : Int) (s3 : ByteArray) (s4 : ByteArray) (b5 : Bool) (r6 : Rows) (s7 : ByteArray) (b8 : Bool) (j9 : Int) (s10 : ByteArray) (b11 : Bool) (r12 : Rows) (s13 : ByteArray) (b14 : Bool) (j15 : Int) (s16 : ByteArray) (s17 : ByteArray) (b18 : Bool) (r19 : Rows) (s20 : ByteArray) (b21 : Bool) (j22 : Int) (s23 : ByteArray) (b24 : Bool) (r25 : Rows) : ref05_SameRule_v n s0 b1 j2 s3 s4 b5 r6 s7 b8 j9 s10 b11 r12 s13 b14 j15 s16 s17 b18 r19 s20 b21 j22 s23 b24 r25 =
  bif !(s0 == s13 && (b1 == b14 && (j2 == j15 && (s3 == s16 && true)))) then
    some (false, ())
  else bif !s4 == s17 then
    some (false, ())
  else bif !(s7 == s20 && (b8 == b21 && (j9 == j22 && (s10 == s23 && true)))) then
    some (false, ())
  else obind (ref05_Terms_v n b5 r6 b18 r19) fun y26 =>
  bif !y26.fst then
    some (false, ())
  else bif (↑(List.length r12) : Int) != (↑(List.length r25) : Int) then
    some (false, ())
  else ref05_SameRule_l4 n s0 b1 j2 s3 s4 b5 r6 s7 b8 j9 s10 b11 r12 s13 b14 j15 s16 s17 b18 r19 s20 b21 j22 s23 b24 r25 n 0 := by kernel_rfl
theorem ref05_SameRule_c (n : Nat) (s0 : ByteArray) (b1 : Bool) (j2 : Int) (s3 : ByteArray) (s4 : ByteArray) (b5 : Bool) (r6 : Rows) (s7 : ByteArray) (b8 : Bool) (j9 : Int) (s10 : ByteArray) (b11 : Bool) (r12 : Rows) (s13 : ByteArray) (b14 : Bool) (j15 : Int) (s16 : ByteArray) (s17 : ByteArray) (b18 : Bool) (r19 : Rows) (s20 : ByteArray) (b21 : Bool) (j22 : Int) (s23 : ByteArray) (b24 : Bool) (r25 : Rows) (y : Bool × Unit) (h : ref05_SameRule_v n s0 b1 j2 s3 s4 b5 r6 s7 b8 j9 s10 b11 r12 s13 b14 j15 s16 s17 b18 r19 s20 b21 j22 s23 b24 r25 = some y) : Contract Try.prog 42 [AV.agg [AV.dv (DV.val (Value.string s0)), AV.dv (DV.val (Value.bool b1)), AV.dv (DV.val (Value.int IntKind.i64 j2)), AV.dv (DV.val (Value.string s3)), AV.dv (DV.val (Value.string s4)), AV.sl b5 [Kd.s, Kd.b, Kd.i IntKind.i64, Kd.s] r6 Right.no, AV.dv (DV.val (Value.string s7)), AV.dv (DV.val (Value.bool b8)), AV.dv (DV.val (Value.int IntKind.i64 j9)), AV.dv (DV.val (Value.string s10)), AV.sl b11 [Kd.s, Kd.b, Kd.i IntKind.i64, Kd.s, Kd.s, Kd.sl [Kd.s, Kd.b, Kd.i IntKind.i64, Kd.s], Kd.s, Kd.b, Kd.i IntKind.i64, Kd.s] r12 Right.no], AV.agg [AV.dv (DV.val (Value.string s13)), AV.dv (DV.val (Value.bool b14)), AV.dv (DV.val (Value.int IntKind.i64 j15)), AV.dv (DV.val (Value.string s16)), AV.dv (DV.val (Value.string s17)), AV.sl b18 [Kd.s, Kd.b, Kd.i IntKind.i64, Kd.s] r19 Right.no, AV.dv (DV.val (Value.string s20)), AV.dv (DV.val (Value.bool b21)), AV.dv (DV.val (Value.int IntKind.i64 j22)), AV.dv (DV.val (Value.string s23)), AV.sl b24 [Kd.s, Kd.b, Kd.i IntKind.i64, Kd.s, Kd.s, Kd.sl [Kd.s, Kd.b, Kd.i IntKind.i64, Kd.s], Kd.s, Kd.b, Kd.i IntKind.i64, Kd.s] r25 Right.no]] [] (OSh.enc (OSh.plain (.b) []) y) :=
  auto_okM tm_std (with_ok mixed (by kernel_rfl) (ref05_SameRule_σok n) n 0 []) (with_pick mixed (by kernel_rfl) (ref05_SameRule_σok n) n 0 []) mixed Try.func42 (by decide) (o := (OSh.plain (.b) [])) h
/-! ref05_Like: function 24 -/
def ref05_Like_lv : Live := [(4, [0, 1, 5], [1000, 1001, 1002, 1003])]
noncomputable def ref05_Like_σ (n : Nat) : Spec := (inst 42 [.agg [.s, .b, .i IntKind.i64, .s, .s, .sl [Kd.s, Kd.b, Kd.i IntKind.i64, Kd.s], .s, .b, .i IntKind.i64, .s, .sl [Kd.s, Kd.b, Kd.i IntKind.i64, Kd.s, Kd.s, Kd.sl [Kd.s, Kd.b, Kd.i IntKind.i64, Kd.s], Kd.s, Kd.b, Kd.i IntKind.i64, Kd.s]], .agg [.s, .b, .i IntKind.i64, .s, .s, .sl [Kd.s, Kd.b, Kd.i IntKind.i64, Kd.s], .s, .b, .i IntKind.i64, .s, .sl [Kd.s, Kd.b, Kd.i IntKind.i64, Kd.s, Kd.s, Kd.sl [Kd.s, Kd.b, Kd.i IntKind.i64, Kd.s], Kd.s, Kd.b, Kd.i IntKind.i64, Kd.s]]] [] (OSh.plain (.b) []) (fun x e => ref05_SameRule_v n x.1.1 x.1.2.1 x.1.2.2.1 x.1.2.2.2.1 x.1.2.2.2.2.1 x.1.2.2.2.2.2.1.1 x.1.2.2.2.2.2.1.2 x.1.2.2.2.2.2.2.1 x.1.2.2.2.2.2.2.2.1 x.1.2.2.2.2.2.2.2.2.1 x.1.2.2.2.2.2.2.2.2.2.1 x.1.2.2.2.2.2.2.2.2.2.2.1.1 x.1.2.2.2.2.2.2.2.2.2.2.1.2 x.2.1.1 x.2.1.2.1 x.2.1.2.2.1 x.2.1.2.2.2.1 x.2.1.2.2.2.2.1 x.2.1.2.2.2.2.2.1.1 x.2.1.2.2.2.2.2.1.2 x.2.1.2.2.2.2.2.2.1 x.2.1.2.2.2.2.2.2.2.1 x.2.1.2.2.2.2.2.2.2.2.1 x.2.1.2.2.2.2.2.2.2.2.2.1 x.2.1.2.2.2.2.2.2.2.2.2.2.1.1 x.2.1.2.2.2.2.2.2.2.2.2.2.1.2) Spec.none)
theorem ref05_Like_σok (n : Nat) : SpecOk Try.prog (ref05_Like_σ n) := (inst_ok (fun x e y h => ref05_SameRule_c n x.1.1 x.1.2.1 x.1.2.2.1 x.1.2.2.2.1 x.1.2.2.2.2.1 x.1.2.2.2.2.2.1.1 x.1.2.2.2.2.2.1.2 x.1.2.2.2.2.2.2.1 x.1.2.2.2.2.2.2.2.1 x.1.2.2.2.2.2.2.2.2.1 x.1.2.2.2.2.2.2.2.2.2.1 x.1.2.2.2.2.2.2.2.2.2.2.1.1 x.1.2.2.2.2.2.2.2.2.2.2.1.2 x.2.1.1 x.2.1.2.1 x.2.1.2.2.1 x.2.1.2.2.2.1 x.2.1.2.2.2.2.1 x.2.1.2.2.2.2.2.1.1 x.2.1.2.2.2.2.2.1.2 x.2.1.2.2.2.2.2.2.1 x.2.1.2.2.2.2.2.2.2.1 x.2.1.2.2.2.2.2.2.2.2.1 x.2.1.2.2.2.2.2.2.2.2.2.1 x.2.1.2.2.2.2.2.2.2.2.2.2.1.1 x.2.1.2.2.2.2.2.2.2.2.2.2.1.2 y h) (SpecOk.none _))
noncomputable def ref05_Like_Φ (n : Nat) : Orc := with_ Try.prog (ref05_Like_σ n) [] n 0 []
noncomputable def ref05_Like_v (n : Nat) (b0 : Bool) (r1 : Rows) (b2 : Bool) (r3 : Rows) : Option (Bool × Unit) :=
  DM.denFn tm (ref05_Like_Φ n) ref05_Like_lv n Try.f24 false [AV.sl b0 [Kd.s, Kd.b, Kd.i IntKind.i64, Kd.s, Kd.s, Kd.sl [Kd.s, Kd.b, Kd.i IntKind.i64, Kd.s], Kd.s, Kd.b, Kd.i IntKind.i64, Kd.s, Kd.sl [Kd.s, Kd.b, Kd.i IntKind.i64, Kd.s, Kd.s, Kd.sl [Kd.s, Kd.b, Kd.i IntKind.i64, Kd.s], Kd.s, Kd.b, Kd.i IntKind.i64, Kd.s]] r1 Right.no, AV.sl b2 [Kd.s, Kd.b, Kd.i IntKind.i64, Kd.s, Kd.s, Kd.sl [Kd.s, Kd.b, Kd.i IntKind.i64, Kd.s], Kd.s, Kd.b, Kd.i IntKind.i64, Kd.s, Kd.sl [Kd.s, Kd.b, Kd.i IntKind.i64, Kd.s, Kd.s, Kd.sl [Kd.s, Kd.b, Kd.i IntKind.i64, Kd.s], Kd.s, Kd.b, Kd.i IntKind.i64, Kd.s]] r3 Right.no] [] (OSh.chk (OSh.plain (.b) []))
noncomputable def ref05_Like_l4 (n : Nat) (b0 : Bool) (r1 : Rows) (b2 : Bool) (r3 : Rows) (i0 : Nat) (j5 : Int) : Option (Bool × Unit) :=
  DM.loopFn tm (ref05_Like_Φ n) ref05_Like_lv n Try.f24 false [] (OSh.chk (OSh.plain (.b) [])) 4 [] i0 (St.mk [AV.sl b0 [Kd.s, Kd.b, Kd.i IntKind.i64, Kd.s, Kd.s, Kd.sl [Kd.s, Kd.b, Kd.i IntKind.i64, Kd.s], Kd.s, Kd.b, Kd.i IntKind.i64, Kd.s, Kd.sl [Kd.s, Kd.b, Kd.i IntKind.i64, Kd.s, Kd.s, Kd.sl [Kd.s, Kd.b, Kd.i IntKind.i64, Kd.s], Kd.s, Kd.b, Kd.i IntKind.i64, Kd.s]] r1 Right.no, AV.sl b2 [Kd.s, Kd.b, Kd.i IntKind.i64, Kd.s, Kd.s, Kd.sl [Kd.s, Kd.b, Kd.i IntKind.i64, Kd.s], Kd.s, Kd.b, Kd.i IntKind.i64, Kd.s, Kd.sl [Kd.s, Kd.b, Kd.i IntKind.i64, Kd.s, Kd.s, Kd.sl [Kd.s, Kd.b, Kd.i IntKind.i64, Kd.s], Kd.s, Kd.b, Kd.i IntKind.i64, Kd.s]] r3 Right.no, AV.junk, AV.junk, AV.junk, AV.dv (DV.val (Value.int IntKind.i64 j5)), AV.junk, AV.junk, AV.junk, AV.junk, AV.junk, AV.junk, AV.junk, AV.junk, AV.junk, AV.junk, AV.junk, AV.junk, AV.junk, AV.junk, AV.junk, AV.junk, AV.junk, AV.junk, AV.junk, AV.junk, AV.junk] [])
theorem ref05_Like_s4 (n : Nat) (b0 : Bool) (r1 : Rows) (b2 : Bool) (r3 : Rows) (i0 : Nat) (j5 : Int) : ref05_Like_l4 n b0 r1 b2 r3 (i0 + 1) j5 =
  bif decide (j5 < (↑(List.length r1) : Int)) then
    if 0 ≤ j5 then
      if j5 < (↑(List.length r1) : Int) then
        if 0 ≤ j5 then
          if j5 < (↑(List.length r3) : Int) then
            obind (ref05_SameRule_v n (Row.S (List.getD r1 (Int.toNat j5) []) 0) (Row.B (List.getD r1 (Int.toNat j5) []) 1) (Row.I (List.getD r1 (Int.toNat j5) []) 2) (Row.S (List.getD r1 (Int.toNat j5) []) 3) (Row.S (List.getD r1 (Int.toNat j5) []) 4) (Row.N (List.getD r1 (Int.toNat j5) []) 5) (Row.R (List.getD r1 (Int.toNat j5) []) 5) (Row.S (List.getD r1 (Int.toNat j5) []) 6) (Row.B (List.getD r1 (Int.toNat j5) []) 7) (Row.I (List.getD r1 (Int.toNat j5) []) 8) (Row.S (List.getD r1 (Int.toNat j5) []) 9) (Row.N (List.getD r1 (Int.toNat j5) []) 10) (Row.R (List.getD r1 (Int.toNat j5) []) 10) (Row.S (List.getD r3 (Int.toNat j5) []) 0) (Row.B (List.getD r3 (Int.toNat j5) []) 1) (Row.I (List.getD r3 (Int.toNat j5) []) 2) (Row.S (List.getD r3 (Int.toNat j5) []) 3) (Row.S (List.getD r3 (Int.toNat j5) []) 4) (Row.N (List.getD r3 (Int.toNat j5) []) 5) (Row.R (List.getD r3 (Int.toNat j5) []) 5) (Row.S (List.getD r3 (Int.toNat j5) []) 6) (Row.B (List.getD r3 (Int.toNat j5) []) 7) (Row.I (List.getD r3 (Int.toNat j5) []) 8) (Row.S (List.getD r3 (Int.toNat j5) []) 9) (Row.N (List.getD r3 (Int.toNat j5) []) 10) (Row.R (List.getD r3 (Int.toNat j5) []) 10)) fun y6 =>
            bif !y6.fst then
              some (false, ())
            else ref05_Like_l4 n b0 r1 b2 r3 i0 (IntKind.wrap IntKind.i64 (j5 + 1))
          else none
        else none
      else none
    else none
  else some (true, ()) := by kernel_rfl
theorem ref05_Like_e (n : Nat) (b0 : Bool) (r1 : Rows) (b2 : Bool) (r3 : Rows) : ref05_Like_v n b0 r1 b2 r3 =
  bif (↑(List.length r1) : Int) != (↑(List.length r3) : Int) then
    some (false, ())
  else ref05_Like_l4 n b0 r1 b2 r3 n 0 := by kernel_rfl
theorem ref05_Like_c (n : Nat) (b0 : Bool) (r1 : Rows) (b2 : Bool) (r3 : Rows) (y : Bool × Unit) (h : ref05_Like_v n b0 r1 b2 r3 = some y) : Contract Try.prog 24 [AV.sl b0 [Kd.s, Kd.b, Kd.i IntKind.i64, Kd.s, Kd.s, Kd.sl [Kd.s, Kd.b, Kd.i IntKind.i64, Kd.s], Kd.s, Kd.b, Kd.i IntKind.i64, Kd.s, Kd.sl [Kd.s, Kd.b, Kd.i IntKind.i64, Kd.s, Kd.s, Kd.sl [Kd.s, Kd.b, Kd.i IntKind.i64, Kd.s], Kd.s, Kd.b, Kd.i IntKind.i64, Kd.s]] r1 Right.no, AV.sl b2 [Kd.s, Kd.b, Kd.i IntKind.i64, Kd.s, Kd.s, Kd.sl [Kd.s, Kd.b, Kd.i IntKind.i64, Kd.s], Kd.s, Kd.b, Kd.i IntKind.i64, Kd.s, Kd.sl [Kd.s, Kd.b, Kd.i IntKind.i64, Kd.s, Kd.s, Kd.sl [Kd.s, Kd.b, Kd.i IntKind.i64, Kd.s], Kd.s, Kd.b, Kd.i IntKind.i64, Kd.s]] r3 Right.no] [] (OSh.enc (OSh.plain (.b) []) y) :=
  auto_okM tm_std (with_ok mixed (by kernel_rfl) (ref05_Like_σok n) n 0 []) (with_pick mixed (by kernel_rfl) (ref05_Like_σok n) n 0 []) mixed Try.func24 (by decide) (o := (OSh.plain (.b) [])) h
/-! law08_live: function 25 -/
def law08_live_lv : Live := []
noncomputable def law08_live_σ (n : Nat) : Spec := (inst 22 [.s] [] (OSh.plain (.tup [.sl [Kd.s, Kd.b, Kd.i IntKind.i64, Kd.s, Kd.s, Kd.sl [Kd.s, Kd.b, Kd.i IntKind.i64, Kd.s], Kd.s, Kd.b, Kd.i IntKind.i64, Kd.s, Kd.sl [Kd.s, Kd.b, Kd.i IntKind.i64, Kd.s, Kd.s, Kd.sl [Kd.s, Kd.b, Kd.i IntKind.i64, Kd.s], Kd.s, Kd.b, Kd.i IntKind.i64, Kd.s]], .i IntKind.i64, .i IntKind.i64]) []) (fun x e => parse_Program_v n x.1) Spec.none)
theorem law08_live_σok (n : Nat) : SpecOk Try.prog (law08_live_σ n) := (inst_ok (fun x e y h => parse_Program_c n x.1 y h) (SpecOk.none _))
noncomputable def law08_live_Φ (n : Nat) : Orc := with_ Try.prog (law08_live_σ n) [] n 0 []
noncomputable def law08_live_v (n : Nat) : Option (Bool × Unit) :=
  DM.denFn tm (law08_live_Φ n) law08_live_lv n Try.f25 false [] [] (OSh.chk (OSh.plain (.b) []))
theorem law08_live_e (n : Nat) : law08_live_v n =
  obind (parse_Program_v n (ByteArray.mk #[97, 58, 32, 112, 40, 49, 41, 32, 116, 111, 32, 66, 32, 58, 45, 32, 66, 32, 115, 97, 121, 115, 32, 113, 40, 34, 120, 32, 121, 34, 41, 32, 97, 116, 32, 99, 46])) fun y0 =>
  obind (parse_Program_v n (ByteArray.mk #[97, 58, 32, 112, 40, 32, 58, 45])) fun y1 =>
  obind (parse_Program_v n (ByteArray.mk #[115, 97, 121, 115, 58, 32, 112, 40, 41, 32, 58, 45, 32, 113, 40, 41, 46])) fun y2 =>
  bif y0.fst.snd.snd.fst == 0 then
    bif (↑(List.length y0.fst.fst.snd) : Int) == 1 then
      if 0 < (↑(List.length y0.fst.fst.snd) : Int) then
        bif Row.S (List.getD y0.fst.fst.snd 0 []) 6 == ByteArray.mk #[66] then
          if 0 < (↑(List.length y0.fst.fst.snd) : Int) then
            bif (↑(List.length (Row.R (List.getD y0.fst.fst.snd 0 []) 10)) : Int) == 1 then
              if 0 < (↑(List.length y0.fst.fst.snd) : Int) then
                if 0 < (↑(List.length (Row.R (List.getD y0.fst.fst.snd 0 []) 10)) : Int) then
                  bif Row.S (List.getD (Row.R (List.getD y0.fst.fst.snd 0 []) 10) 0 []) 9 == ByteArray.mk #[99] then
                    if 0 < (↑(List.length y0.fst.fst.snd) : Int) then
                      if 0 < (↑(List.length (Row.R (List.getD y0.fst.fst.snd 0 []) 10)) : Int) then
                        if 0 < (↑(List.length (Row.R (List.getD (Row.R (List.getD y0.fst.fst.snd 0 []) 10) 0 []) 5)) : Int) then
                          bif Row.S (List.getD (Row.R (List.getD (Row.R (List.getD y0.fst.fst.snd 0 []) 10) 0 []) 5) 0 []) 3 == ByteArray.mk #[120, 32, 121] then
                            bif y1.fst.snd.fst == 6 then
                              bif y1.fst.snd.snd.fst == 80 then
                                bif y2.fst.snd.fst == 0 then
                                  some (y2.fst.snd.snd.fst == 80, ())
                                else some (false, ())
                              else some (false, ())
                            else some (false, ())
                          else some (false, ())
                        else none
                      else none
                    else none
                  else some (false, ())
                else none
              else none
            else some (false, ())
          else none
        else some (false, ())
      else none
    else some (false, ())
  else some (false, ()) := by kernel_rfl
theorem law08_live_c (n : Nat) (y : Bool × Unit) (h : law08_live_v n = some y) : Contract Try.prog 25 [] [] (OSh.enc (OSh.plain (.b) []) y) :=
  auto_okM tm_std (with_ok mixed (by kernel_rfl) (law08_live_σok n) n 0 []) (with_pick mixed (by kernel_rfl) (law08_live_σok n) n 0 []) mixed Try.func25 (by decide) (o := (OSh.plain (.b) [])) h
/-! law08_ParsePrograms: function 9 -/
def law08_ParsePrograms_lv : Live := []
noncomputable def law08_ParsePrograms_σ (n : Nat) : Spec := (inst 22 [.s] [] (OSh.plain (.tup [.sl [Kd.s, Kd.b, Kd.i IntKind.i64, Kd.s, Kd.s, Kd.sl [Kd.s, Kd.b, Kd.i IntKind.i64, Kd.s], Kd.s, Kd.b, Kd.i IntKind.i64, Kd.s, Kd.sl [Kd.s, Kd.b, Kd.i IntKind.i64, Kd.s, Kd.s, Kd.sl [Kd.s, Kd.b, Kd.i IntKind.i64, Kd.s], Kd.s, Kd.b, Kd.i IntKind.i64, Kd.s]], .i IntKind.i64, .i IntKind.i64]) []) (fun x e => parse_Program_v n x.1) (inst 23 [.s] [] (OSh.plain (.tup [.slt [Kd.s, Kd.b, Kd.i IntKind.i64, Kd.s, Kd.s, Kd.sl [Kd.s, Kd.b, Kd.i IntKind.i64, Kd.s], Kd.s, Kd.b, Kd.i IntKind.i64, Kd.s, Kd.sl [Kd.s, Kd.b, Kd.i IntKind.i64, Kd.s, Kd.s, Kd.sl [Kd.s, Kd.b, Kd.i IntKind.i64, Kd.s], Kd.s, Kd.b, Kd.i IntKind.i64, Kd.s]] 0, .i IntKind.i64, .i IntKind.i64]) []) (fun x e => ref08_Program_v n x.1) (inst 24 [.sl [Kd.s, Kd.b, Kd.i IntKind.i64, Kd.s, Kd.s, Kd.sl [Kd.s, Kd.b, Kd.i IntKind.i64, Kd.s], Kd.s, Kd.b, Kd.i IntKind.i64, Kd.s, Kd.sl [Kd.s, Kd.b, Kd.i IntKind.i64, Kd.s, Kd.s, Kd.sl [Kd.s, Kd.b, Kd.i IntKind.i64, Kd.s], Kd.s, Kd.b, Kd.i IntKind.i64, Kd.s]], .sl [Kd.s, Kd.b, Kd.i IntKind.i64, Kd.s, Kd.s, Kd.sl [Kd.s, Kd.b, Kd.i IntKind.i64, Kd.s], Kd.s, Kd.b, Kd.i IntKind.i64, Kd.s, Kd.sl [Kd.s, Kd.b, Kd.i IntKind.i64, Kd.s, Kd.s, Kd.sl [Kd.s, Kd.b, Kd.i IntKind.i64, Kd.s], Kd.s, Kd.b, Kd.i IntKind.i64, Kd.s]]] [] (OSh.plain (.b) []) (fun x e => ref05_Like_v n x.1.1 x.1.2 x.2.1.1 x.2.1.2) (inst 25 [] [] (OSh.plain (.b) []) (fun x e => law08_live_v n) Spec.none))))
theorem law08_ParsePrograms_σok (n : Nat) : SpecOk Try.prog (law08_ParsePrograms_σ n) := (inst_ok (fun x e y h => parse_Program_c n x.1 y h) (inst_ok (fun x e y h => ref08_Program_c n x.1 y h) (inst_ok (fun x e y h => ref05_Like_c n x.1.1 x.1.2 x.2.1.1 x.2.1.2 y h) (inst_ok (fun x e y h => law08_live_c n y h) (SpecOk.none _)))))
noncomputable def law08_ParsePrograms_Φ (n : Nat) : Orc := with_ Try.prog (law08_ParsePrograms_σ n) [] n 0 []
noncomputable def law08_ParsePrograms_v (n : Nat) (s0 : ByteArray) : Option (Bool × Unit) :=
  DM.denFn tm (law08_ParsePrograms_Φ n) law08_ParsePrograms_lv n Try.f9 false [AV.dv (DV.val (Value.string s0))] [] (OSh.chk (OSh.plain (.b) []))
theorem law08_ParsePrograms_e (n : Nat) (s0 : ByteArray) : law08_ParsePrograms_v n s0 =
  obind (parse_Program_v n s0) fun y1 =>
  obind (ref08_Program_v n s0) fun y2 =>
  obind (ref05_Like_v n y1.fst.fst.fst y1.fst.fst.snd y2.fst.fst.fst y2.fst.fst.snd) fun y3 =>
  bif y3.fst then
    bif y1.fst.snd.fst == y2.fst.snd.fst then
      bif y1.fst.snd.snd.fst == y2.fst.snd.snd.fst then
        obind (law08_live_v n) fun y4 =>
        some (y4.fst, ())
      else some (false, ())
    else some (false, ())
  else some (false, ()) := by kernel_rfl
theorem law08_ParsePrograms_c (n : Nat) (s0 : ByteArray) (y : Bool × Unit) (h : law08_ParsePrograms_v n s0 = some y) : Contract Try.prog 9 [AV.dv (DV.val (Value.string s0))] [] (OSh.enc (OSh.plain (.b) []) y) :=
  auto_okM tm_std (with_ok mixed (by kernel_rfl) (law08_ParsePrograms_σok n) n 0 []) (with_pick mixed (by kernel_rfl) (law08_ParsePrograms_σok n) n 0 []) mixed Try.func9 (by decide) (o := (OSh.plain (.b) [])) h
/-! law08_ParseJoins: function 10 -/
def law08_ParseJoins_lv : Live := []
noncomputable def law08_ParseJoins_σ (n : Nat) : Spec := (inst 22 [.s] [] (OSh.plain (.tup [.sl [Kd.s, Kd.b, Kd.i IntKind.i64, Kd.s, Kd.s, Kd.sl [Kd.s, Kd.b, Kd.i IntKind.i64, Kd.s], Kd.s, Kd.b, Kd.i IntKind.i64, Kd.s, Kd.sl [Kd.s, Kd.b, Kd.i IntKind.i64, Kd.s, Kd.s, Kd.sl [Kd.s, Kd.b, Kd.i IntKind.i64, Kd.s], Kd.s, Kd.b, Kd.i IntKind.i64, Kd.s]], .i IntKind.i64, .i IntKind.i64]) []) (fun x e => parse_Program_v n x.1) (inst 25 [] [] (OSh.plain (.b) []) (fun x e => law08_live_v n) (inst 24 [.sl [Kd.s, Kd.b, Kd.i IntKind.i64, Kd.s, Kd.s, Kd.sl [Kd.s, Kd.b, Kd.i IntKind.i64, Kd.s], Kd.s, Kd.b, Kd.i IntKind.i64, Kd.s, Kd.sl [Kd.s, Kd.b, Kd.i IntKind.i64, Kd.s, Kd.s, Kd.sl [Kd.s, Kd.b, Kd.i IntKind.i64, Kd.s], Kd.s, Kd.b, Kd.i IntKind.i64, Kd.s]], .sl [Kd.s, Kd.b, Kd.i IntKind.i64, Kd.s, Kd.s, Kd.sl [Kd.s, Kd.b, Kd.i IntKind.i64, Kd.s], Kd.s, Kd.b, Kd.i IntKind.i64, Kd.s, Kd.sl [Kd.s, Kd.b, Kd.i IntKind.i64, Kd.s, Kd.s, Kd.sl [Kd.s, Kd.b, Kd.i IntKind.i64, Kd.s], Kd.s, Kd.b, Kd.i IntKind.i64, Kd.s]]] [] (OSh.plain (.b) []) (fun x e => ref05_Like_v n x.1.1 x.1.2 x.2.1.1 x.2.1.2) Spec.none)))
theorem law08_ParseJoins_σok (n : Nat) : SpecOk Try.prog (law08_ParseJoins_σ n) := (inst_ok (fun x e y h => parse_Program_c n x.1 y h) (inst_ok (fun x e y h => law08_live_c n y h) (inst_ok (fun x e y h => ref05_Like_c n x.1.1 x.1.2 x.2.1.1 x.2.1.2 y h) (SpecOk.none _))))
noncomputable def law08_ParseJoins_Φ (n : Nat) : Orc := with_ Try.prog (law08_ParseJoins_σ n) [] n 0 []
noncomputable def law08_ParseJoins_v (n : Nat) (s0 : ByteArray) (s1 : ByteArray) : Option (Bool × Unit) :=
  DM.denFn tm (law08_ParseJoins_Φ n) law08_ParseJoins_lv n Try.f10 false [AV.dv (DV.val (Value.string s0)), AV.dv (DV.val (Value.string s1))] [] (OSh.chk (OSh.plain (.b) []))
theorem law08_ParseJoins_e (n : Nat) (s0 : ByteArray) (s1 : ByteArray) : law08_ParseJoins_v n s0 s1 =
  obind (parse_Program_v n s0) fun y2 =>
  obind (parse_Program_v n s1) fun y3 =>
  bif y2.fst.snd.snd.fst != 0 then
    obind (law08_live_v n) fun y4 =>
    some (y4.fst, ())
  else bif y3.fst.snd.snd.fst != 0 then
    obind (law08_live_v n) fun y5 =>
    some (y5.fst, ())
  else bif decide ((↑(ByteArray.size s0) : Int) > IntKind.wrap IntKind.i64 (4095 - (↑(ByteArray.size s1) : Int))) then
    obind (law08_live_v n) fun y6 =>
    some (y6.fst, ())
  else if ByteArray.size s0 + 1 < 4611686018427387904 then
    if ByteArray.size (s0 ++ ByteArray.mk #[10]) + ByteArray.size s1 < 4611686018427387904 then
      obind (parse_Program_v n (s0 ++ ByteArray.mk #[10] ++ s1)) fun y7 =>
      bif decide (IntKind.wrap IntKind.i64 ((↑(List.length y2.fst.fst.snd) : Int) + (↑(List.length y3.fst.fst.snd) : Int)) > 16) then
        bif (↑(List.length y7.fst.fst.snd) : Int) == 0 then
          bif y7.fst.snd.snd.fst == 81 then
            bif decide (y7.fst.snd.fst > (↑(ByteArray.size s0) : Int)) then
              obind (law08_live_v n) fun y8 =>
              some (y8.fst, ())
            else some (false, ())
          else some (false, ())
        else some (false, ())
      else bif y7.fst.snd.snd.fst == 0 then
        if (0 + List.length y2.fst.fst.snd) * 160 ≤ 140737488355328 then
          if (List.length (appX [] y2.fst.fst.snd) + List.length y3.fst.fst.snd) * 160 ≤ 140737488355328 then
            obind (ref05_Like_v n y7.fst.fst.fst y7.fst.fst.snd (false && List.isEmpty y2.fst.fst.snd && List.isEmpty y3.fst.fst.snd) (appX (appX [] y2.fst.fst.snd) y3.fst.fst.snd)) fun y9 =>
            bif y9.fst then
              obind (law08_live_v n) fun y10 =>
              some (y10.fst, ())
            else some (false, ())
          else none
        else none
      else some (false, ())
    else none
  else none := by kernel_rfl
theorem law08_ParseJoins_c (n : Nat) (s0 : ByteArray) (s1 : ByteArray) (y : Bool × Unit) (h : law08_ParseJoins_v n s0 s1 = some y) : Contract Try.prog 10 [AV.dv (DV.val (Value.string s0)), AV.dv (DV.val (Value.string s1))] [] (OSh.enc (OSh.plain (.b) []) y) :=
  auto_okM tm_std (with_ok mixed (by kernel_rfl) (law08_ParseJoins_σok n) n 0 []) (with_pick mixed (by kernel_rfl) (law08_ParseJoins_σok n) n 0 []) mixed Try.func10 (by decide) (o := (OSh.plain (.b) [])) h
/-! law08_ParseBlanks: function 11 -/
def law08_ParseBlanks_lv : Live := [(8, [0, 5, 6, 9, 10, 11], [1000, 1001, 1002, 1003])]
noncomputable def law08_ParseBlanks_σ (n : Nat) : Spec := (inst 15 [.s] [] (OSh.plain (.tup [.sl [Kd.i IntKind.i64, Kd.s, Kd.i IntKind.i64, Kd.i IntKind.i64], .i IntKind.i64, .i IntKind.i64]) []) (fun x e => ref07_Tokens_v n x.1) (inst 25 [] [] (OSh.plain (.b) []) (fun x e => law08_live_v n) (inst 22 [.s] [] (OSh.plain (.tup [.sl [Kd.s, Kd.b, Kd.i IntKind.i64, Kd.s, Kd.s, Kd.sl [Kd.s, Kd.b, Kd.i IntKind.i64, Kd.s], Kd.s, Kd.b, Kd.i IntKind.i64, Kd.s, Kd.sl [Kd.s, Kd.b, Kd.i IntKind.i64, Kd.s, Kd.s, Kd.sl [Kd.s, Kd.b, Kd.i IntKind.i64, Kd.s], Kd.s, Kd.b, Kd.i IntKind.i64, Kd.s]], .i IntKind.i64, .i IntKind.i64]) []) (fun x e => parse_Program_v n x.1) (inst 24 [.sl [Kd.s, Kd.b, Kd.i IntKind.i64, Kd.s, Kd.s, Kd.sl [Kd.s, Kd.b, Kd.i IntKind.i64, Kd.s], Kd.s, Kd.b, Kd.i IntKind.i64, Kd.s, Kd.sl [Kd.s, Kd.b, Kd.i IntKind.i64, Kd.s, Kd.s, Kd.sl [Kd.s, Kd.b, Kd.i IntKind.i64, Kd.s], Kd.s, Kd.b, Kd.i IntKind.i64, Kd.s]], .sl [Kd.s, Kd.b, Kd.i IntKind.i64, Kd.s, Kd.s, Kd.sl [Kd.s, Kd.b, Kd.i IntKind.i64, Kd.s], Kd.s, Kd.b, Kd.i IntKind.i64, Kd.s, Kd.sl [Kd.s, Kd.b, Kd.i IntKind.i64, Kd.s, Kd.s, Kd.sl [Kd.s, Kd.b, Kd.i IntKind.i64, Kd.s], Kd.s, Kd.b, Kd.i IntKind.i64, Kd.s]]] [] (OSh.plain (.b) []) (fun x e => ref05_Like_v n x.1.1 x.1.2 x.2.1.1 x.2.1.2) Spec.none))))
theorem law08_ParseBlanks_σok (n : Nat) : SpecOk Try.prog (law08_ParseBlanks_σ n) := (inst_ok (fun x e y h => ref07_Tokens_c n x.1 y h) (inst_ok (fun x e y h => law08_live_c n y h) (inst_ok (fun x e y h => parse_Program_c n x.1 y h) (inst_ok (fun x e y h => ref05_Like_c n x.1.1 x.1.2 x.2.1.1 x.2.1.2 y h) (SpecOk.none _)))))
noncomputable def law08_ParseBlanks_Φ (n : Nat) : Orc := with_ Try.prog (law08_ParseBlanks_σ n) [] n 0 []
noncomputable def law08_ParseBlanks_v (n : Nat) (s0 : ByteArray) (j1 : Int) : Option (Bool × Unit) :=
  DM.denFn tm (law08_ParseBlanks_Φ n) law08_ParseBlanks_lv n Try.f11 false [AV.dv (DV.val (Value.string s0)), AV.dv (DV.val (Value.int IntKind.i64 j1))] [] (OSh.chk (OSh.plain (.b) []))
noncomputable def law08_ParseBlanks_l8 (n : Nat) (s0 : ByteArray) (j1 : Int) (i0 : Nat) (b4 : Bool) (r5 : List (List DV)) (s11 : ByteArray) (j12 : Int) (j13 : Int) : Option (Bool × Unit) :=
  DM.loopFn tm (law08_ParseBlanks_Φ n) law08_ParseBlanks_lv n Try.f11 false [] (OSh.chk (OSh.plain (.b) [])) 8 [] i0 (St.mk [AV.dv (DV.val (Value.string s0)), AV.junk, AV.junk, AV.junk, AV.junk, AV.dv (DV.val (Value.string (Row.S [DV.val (Value.string (ByteArray.mk #[32])), DV.val (Value.string (ByteArray.mk #[10])), DV.val (Value.string (ByteArray.mk #[32, 37, 32, 120, 40, 10])), DV.val (Value.string (ByteArray.mk #[9, 13, 10, 32]))] (Int.toNat (Int.tmod (IntKind.wrap IntKind.i64 (Int.tmod j1 4 + 4)) 4))))), AV.sl b4 [Kd.i IntKind.i64, Kd.s, Kd.i IntKind.i64, Kd.i IntKind.i64] r5 Right.no, AV.junk, AV.junk, AV.dv (DV.val (Value.string s11)), AV.dv (DV.val (Value.int IntKind.i64 j12)), AV.dv (DV.val (Value.int IntKind.i64 j13)), AV.junk, AV.junk, AV.junk, AV.junk, AV.junk, AV.junk, AV.junk, AV.junk, AV.junk, AV.junk, AV.junk, AV.junk, AV.junk, AV.junk, AV.junk, AV.junk, AV.junk, AV.junk, AV.junk, AV.junk, AV.junk, AV.junk, AV.junk, AV.junk, AV.junk, AV.junk, AV.junk, AV.junk, AV.junk, AV.junk, AV.junk, AV.junk, AV.junk, AV.junk, AV.junk, AV.junk, AV.junk, AV.junk, AV.junk, AV.junk, AV.junk, AV.junk, AV.junk, AV.junk, AV.junk, AV.junk, AV.junk, AV.junk, AV.junk, AV.junk, AV.junk, AV.junk, AV.junk, AV.junk, AV.junk, AV.junk, AV.junk, AV.junk, AV.junk, AV.junk, AV.junk, AV.junk, AV.junk, AV.junk, AV.junk, AV.junk, AV.junk, AV.junk, AV.junk, AV.junk, AV.junk, AV.junk, AV.junk, AV.junk, AV.junk, AV.junk, AV.junk, AV.junk, AV.junk, AV.junk] [])
theorem law08_ParseBlanks_s8 (n : Nat) (s0 : ByteArray) (j1 : Int) (i0 : Nat) (b4 : Bool) (r5 : List (List DV)) (s11 : ByteArray) (j12 : Int) (j13 : Int) : law08_ParseBlanks_l8 n s0 j1 (i0 + 1) b4 r5 s11 j12 j13 =
  bif decide (j13 < (↑(List.length r5) : Int)) then
    if 0 ≤ j13 then
      if j13 < (↑(List.length r5) : Int) then
        if 0 ≤ j12 then
          if j12 ≤ Row.I (List.getD r5 (Int.toNat j13) []) 3 then
            if Row.I (List.getD r5 (Int.toNat j13) []) 3 ≤ (↑(ByteArray.size s0) : Int) then
              if ByteArray.size (ByteArray.extract s0 (Int.toNat j12) (Int.toNat (Row.I (List.getD r5 (Int.toNat j13) []) 3))) + ByteArray.size (Row.S [DV.val (Value.string (ByteArray.mk #[32])), DV.val (Value.string (ByteArray.mk #[10])), DV.val (Value.string (ByteArray.mk #[32, 37, 32, 120, 40, 10])), DV.val (Value.string (ByteArray.mk #[9, 13, 10, 32]))] (Int.toNat (Int.tmod (IntKind.wrap IntKind.i64 (Int.tmod j1 4 + 4)) 4))) < 4611686018427387904 then
                if ByteArray.size s11 + ByteArray.size (ByteArray.extract s0 (Int.toNat j12) (Int.toNat (Row.I (List.getD r5 (Int.toNat j13) []) 3)) ++ Row.S [DV.val (Value.string (ByteArray.mk #[32])), DV.val (Value.string (ByteArray.mk #[10])), DV.val (Value.string (ByteArray.mk #[32, 37, 32, 120, 40, 10])), DV.val (Value.string (ByteArray.mk #[9, 13, 10, 32]))] (Int.toNat (Int.tmod (IntKind.wrap IntKind.i64 (Int.tmod j1 4 + 4)) 4))) < 4611686018427387904 then
                  if 0 ≤ j13 then
                    if j13 < (↑(List.length r5) : Int) then
                      law08_ParseBlanks_l8 n s0 j1 i0 b4 r5 (s11 ++ (ByteArray.extract s0 (Int.toNat j12) (Int.toNat (Row.I (List.getD r5 (Int.toNat j13) []) 3)) ++ Row.S [DV.val (Value.string (ByteArray.mk #[32])), DV.val (Value.string (ByteArray.mk #[10])), DV.val (Value.string (ByteArray.mk #[32, 37, 32, 120, 40, 10])), DV.val (Value.string (ByteArray.mk #[9, 13, 10, 32]))] (Int.toNat (Int.tmod (IntKind.wrap IntKind.i64 (Int.tmod j1 4 + 4)) 4)))) (Row.I (List.getD r5 (Int.toNat j13) []) 3) (IntKind.wrap IntKind.i64 (j13 + 1))
                    else none
                  else none
                else none
              else none
            else none
          else none
        else none
      else none
    else none
  else if 0 ≤ j12 then
    if j12 ≤ (↑(ByteArray.size s0) : Int) then
      if (↑(ByteArray.size s0) : Int) ≤ (↑(ByteArray.size s0) : Int) then
        if ByteArray.size s11 + ByteArray.size (ByteArray.extract s0 (Int.toNat j12) (Int.toNat (↑(ByteArray.size s0) : Int))) < 4611686018427387904 then
          obind (parse_Program_v n s0) fun y14 =>
          obind (parse_Program_v n (s11 ++ ByteArray.extract s0 (Int.toNat j12) (Int.toNat (↑(ByteArray.size s0) : Int)))) fun y15 =>
          bif decide ((↑(ByteArray.size (s11 ++ ByteArray.extract s0 (Int.toNat j12) (Int.toNat (↑(ByteArray.size s0) : Int)))) : Int) > 4096) then
            bif y15.fst.snd.snd.fst == 3 then
              obind (law08_live_v n) fun y16 =>
              some (y16.fst, ())
            else some (false, ())
          else bif y14.fst.snd.snd.fst == y15.fst.snd.snd.fst then
            obind (ref05_Like_v n y14.fst.fst.fst y14.fst.fst.snd y15.fst.fst.fst y15.fst.fst.snd) fun y17 =>
            bif y17.fst then
              obind (law08_live_v n) fun y18 =>
              some (y18.fst, ())
            else some (false, ())
          else some (false, ())
        else none
      else none
    else none
  else none := by kernel_rfl
theorem law08_ParseBlanks_e (n : Nat) (s0 : ByteArray) (j1 : Int) : law08_ParseBlanks_v n s0 j1 =
  if 0 ≤ Int.tmod (IntKind.wrap IntKind.i64 (Int.tmod j1 4 + 4)) 4 then
    if Int.tmod (IntKind.wrap IntKind.i64 (Int.tmod j1 4 + 4)) 4 < (↑4 : Int) then
      obind (ref07_Tokens_v n s0) fun y2 =>
      bif y2.fst.snd.snd.fst != 0 then
        obind (law08_live_v n) fun y3 =>
        some (y3.fst, ())
      else law08_ParseBlanks_l8 n s0 j1 n y2.fst.fst.fst y2.fst.fst.snd (ByteArray.mk #[]) 0 0
    else none
  else none := by kernel_rfl
theorem law08_ParseBlanks_c (n : Nat) (s0 : ByteArray) (j1 : Int) (y : Bool × Unit) (h : law08_ParseBlanks_v n s0 j1 = some y) : Contract Try.prog 11 [AV.dv (DV.val (Value.string s0)), AV.dv (DV.val (Value.int IntKind.i64 j1))] [] (OSh.enc (OSh.plain (.b) []) y) :=
  auto_okM tm_std (with_ok mixed (by kernel_rfl) (law08_ParseBlanks_σok n) n 0 []) (with_pick mixed (by kernel_rfl) (law08_ParseBlanks_σok n) n 0 []) mixed Try.func11 (by decide) (o := (OSh.plain (.b) [])) h
/-! law08_ParseCuts: function 12 -/
def law08_ParseCuts_lv : Live := []
noncomputable def law08_ParseCuts_σ (n : Nat) : Spec := (inst 22 [.s] [] (OSh.plain (.tup [.sl [Kd.s, Kd.b, Kd.i IntKind.i64, Kd.s, Kd.s, Kd.sl [Kd.s, Kd.b, Kd.i IntKind.i64, Kd.s], Kd.s, Kd.b, Kd.i IntKind.i64, Kd.s, Kd.sl [Kd.s, Kd.b, Kd.i IntKind.i64, Kd.s, Kd.s, Kd.sl [Kd.s, Kd.b, Kd.i IntKind.i64, Kd.s], Kd.s, Kd.b, Kd.i IntKind.i64, Kd.s]], .i IntKind.i64, .i IntKind.i64]) []) (fun x e => parse_Program_v n x.1) (inst 15 [.s] [] (OSh.plain (.tup [.sl [Kd.i IntKind.i64, Kd.s, Kd.i IntKind.i64, Kd.i IntKind.i64], .i IntKind.i64, .i IntKind.i64]) []) (fun x e => ref07_Tokens_v n x.1) (inst 25 [] [] (OSh.plain (.b) []) (fun x e => law08_live_v n) (inst 24 [.sl [Kd.s, Kd.b, Kd.i IntKind.i64, Kd.s, Kd.s, Kd.sl [Kd.s, Kd.b, Kd.i IntKind.i64, Kd.s], Kd.s, Kd.b, Kd.i IntKind.i64, Kd.s, Kd.sl [Kd.s, Kd.b, Kd.i IntKind.i64, Kd.s, Kd.s, Kd.sl [Kd.s, Kd.b, Kd.i IntKind.i64, Kd.s], Kd.s, Kd.b, Kd.i IntKind.i64, Kd.s]], .sl [Kd.s, Kd.b, Kd.i IntKind.i64, Kd.s, Kd.s, Kd.sl [Kd.s, Kd.b, Kd.i IntKind.i64, Kd.s], Kd.s, Kd.b, Kd.i IntKind.i64, Kd.s, Kd.sl [Kd.s, Kd.b, Kd.i IntKind.i64, Kd.s, Kd.s, Kd.sl [Kd.s, Kd.b, Kd.i IntKind.i64, Kd.s], Kd.s, Kd.b, Kd.i IntKind.i64, Kd.s]]] [] (OSh.plain (.b) []) (fun x e => ref05_Like_v n x.1.1 x.1.2 x.2.1.1 x.2.1.2) Spec.none))))
theorem law08_ParseCuts_σok (n : Nat) : SpecOk Try.prog (law08_ParseCuts_σ n) := (inst_ok (fun x e y h => parse_Program_c n x.1 y h) (inst_ok (fun x e y h => ref07_Tokens_c n x.1 y h) (inst_ok (fun x e y h => law08_live_c n y h) (inst_ok (fun x e y h => ref05_Like_c n x.1.1 x.1.2 x.2.1.1 x.2.1.2 y h) (SpecOk.none _)))))
noncomputable def law08_ParseCuts_Φ (n : Nat) : Orc := with_ Try.prog (law08_ParseCuts_σ n) [] n 0 []
noncomputable def law08_ParseCuts_v (n : Nat) (s0 : ByteArray) (j1 : Int) : Option (Bool × Unit) :=
  DM.denFn tm (law08_ParseCuts_Φ n) law08_ParseCuts_lv n Try.f12 false [AV.dv (DV.val (Value.string s0)), AV.dv (DV.val (Value.int IntKind.i64 j1))] [] (OSh.chk (OSh.plain (.b) []))
theorem law08_ParseCuts_e (n : Nat) (s0 : ByteArray) (j1 : Int) : law08_ParseCuts_v n s0 j1 =
  obind (parse_Program_v n s0) fun y2 =>
  obind (ref07_Tokens_v n s0) fun y3 =>
  bif y2.fst.snd.snd.fst != 0 then
    obind (law08_live_v n) fun y4 =>
    some (y4.fst, ())
  else bif y3.fst.snd.snd.fst != 0 then
    obind (law08_live_v n) fun y5 =>
    some (y5.fst, ())
  else bif (↑(List.length y3.fst.fst.snd) : Int) == 0 then
    obind (law08_live_v n) fun y6 =>
    some (y6.fst, ())
  else if (↑(List.length y3.fst.fst.snd) : Int) = 0 then
    none
  else if (↑(List.length y3.fst.fst.snd) : Int) = 0 then
    none
  else if 0 ≤ Int.tmod (IntKind.wrap IntKind.i64 (Int.tmod j1 (↑(List.length y3.fst.fst.snd) : Int) + (↑(List.length y3.fst.fst.snd) : Int))) (↑(List.length y3.fst.fst.snd) : Int) then
    if Int.tmod (IntKind.wrap IntKind.i64 (Int.tmod j1 (↑(List.length y3.fst.fst.snd) : Int) + (↑(List.length y3.fst.fst.snd) : Int))) (↑(List.length y3.fst.fst.snd) : Int) < (↑(List.length y3.fst.fst.snd) : Int) then
      if 0 ≤ Row.I (List.getD y3.fst.fst.snd (Int.toNat (Int.tmod (IntKind.wrap IntKind.i64 (Int.tmod j1 (↑(List.length y3.fst.fst.snd) : Int) + (↑(List.length y3.fst.fst.snd) : Int))) (↑(List.length y3.fst.fst.snd) : Int))) []) 3 then
        if Row.I (List.getD y3.fst.fst.snd (Int.toNat (Int.tmod (IntKind.wrap IntKind.i64 (Int.tmod j1 (↑(List.length y3.fst.fst.snd) : Int) + (↑(List.length y3.fst.fst.snd) : Int))) (↑(List.length y3.fst.fst.snd) : Int))) []) 3 ≤ (↑(ByteArray.size s0) : Int) then
          obind (parse_Program_v n (ByteArray.extract s0 0 (Int.toNat (Row.I (List.getD y3.fst.fst.snd (Int.toNat (Int.tmod (IntKind.wrap IntKind.i64 (Int.tmod j1 (↑(List.length y3.fst.fst.snd) : Int) + (↑(List.length y3.fst.fst.snd) : Int))) (↑(List.length y3.fst.fst.snd) : Int))) []) 3)))) fun y7 =>
          bif y7.fst.snd.snd.fst == 0 then
            bif decide ((↑(List.length y7.fst.fst.snd) : Int) < (↑(List.length y2.fst.fst.snd) : Int)) then
              if (↑(List.length y7.fst.fst.snd) : Int) ≤ (↑(List.length y2.fst.fst.snd) : Int) then
                obind (ref05_Like_v n y7.fst.fst.fst y7.fst.fst.snd y2.fst.fst.fst (List.drop 0 (List.take (Int.toNat (↑(List.length y7.fst.fst.snd) : Int)) y2.fst.fst.snd))) fun y8 =>
                bif y8.fst then
                  obind (law08_live_v n) fun y9 =>
                  some (y9.fst, ())
                else some (false, ())
              else none
            else some (false, ())
          else bif y7.fst.snd.snd.fst == 80 then
            bif y7.fst.snd.fst == (↑(ByteArray.size (ByteArray.extract s0 0 (Int.toNat (Row.I (List.getD y3.fst.fst.snd (Int.toNat (Int.tmod (IntKind.wrap IntKind.i64 (Int.tmod j1 (↑(List.length y3.fst.fst.snd) : Int) + (↑(List.length y3.fst.fst.snd) : Int))) (↑(List.length y3.fst.fst.snd) : Int))) []) 3)))) : Int) then
              obind (law08_live_v n) fun y10 =>
              some (y10.fst, ())
            else some (false, ())
          else some (false, ())
        else none
      else none
    else none
  else none := by kernel_rfl
theorem law08_ParseCuts_c (n : Nat) (s0 : ByteArray) (j1 : Int) (y : Bool × Unit) (h : law08_ParseCuts_v n s0 j1 = some y) : Contract Try.prog 12 [AV.dv (DV.val (Value.string s0)), AV.dv (DV.val (Value.int IntKind.i64 j1))] [] (OSh.enc (OSh.plain (.b) []) y) :=
  auto_okM tm_std (with_ok mixed (by kernel_rfl) (law08_ParseCuts_σok n) n 0 []) (with_pick mixed (by kernel_rfl) (law08_ParseCuts_σok n) n 0 []) mixed Try.func12 (by decide) (o := (OSh.plain (.b) [])) h
/-! law08_ParsePlaces: function 13 -/
def law08_ParsePlaces_lv : Live := [(9, [3, 4, 5, 6, 9, 10], [1000, 1001, 1002, 1003])]
noncomputable def law08_ParsePlaces_σ (n : Nat) : Spec := (inst 22 [.s] [] (OSh.plain (.tup [.sl [Kd.s, Kd.b, Kd.i IntKind.i64, Kd.s, Kd.s, Kd.sl [Kd.s, Kd.b, Kd.i IntKind.i64, Kd.s], Kd.s, Kd.b, Kd.i IntKind.i64, Kd.s, Kd.sl [Kd.s, Kd.b, Kd.i IntKind.i64, Kd.s, Kd.s, Kd.sl [Kd.s, Kd.b, Kd.i IntKind.i64, Kd.s], Kd.s, Kd.b, Kd.i IntKind.i64, Kd.s]], .i IntKind.i64, .i IntKind.i64]) []) (fun x e => parse_Program_v n x.1) (inst 25 [] [] (OSh.plain (.b) []) (fun x e => law08_live_v n) (inst 15 [.s] [] (OSh.plain (.tup [.sl [Kd.i IntKind.i64, Kd.s, Kd.i IntKind.i64, Kd.i IntKind.i64], .i IntKind.i64, .i IntKind.i64]) []) (fun x e => ref07_Tokens_v n x.1) Spec.none)))
theorem law08_ParsePlaces_σok (n : Nat) : SpecOk Try.prog (law08_ParsePlaces_σ n) := (inst_ok (fun x e y h => parse_Program_c n x.1 y h) (inst_ok (fun x e y h => law08_live_c n y h) (inst_ok (fun x e y h => ref07_Tokens_c n x.1 y h) (SpecOk.none _))))
noncomputable def law08_ParsePlaces_Φ (n : Nat) : Orc := with_ Try.prog (law08_ParsePlaces_σ n) [] n 0 []
noncomputable def law08_ParsePlaces_v (n : Nat) (s0 : ByteArray) : Option (Bool × Unit) :=
  DM.denFn tm (law08_ParsePlaces_Φ n) law08_ParsePlaces_lv n Try.f13 false [AV.dv (DV.val (Value.string s0))] [] (OSh.chk (OSh.plain (.b) []))
noncomputable def law08_ParsePlaces_l9 (n : Nat) (s0 : ByteArray) (i0 : Nat) (b5 : Bool) (r6 : List (List DV)) (j7 : Int) (j8 : Int) (b9 : Bool) (r10 : List (List DV)) (b11 : Bool) (j14 : Int) : Option (Bool × Unit) :=
  DM.loopFn tm (law08_ParsePlaces_Φ n) law08_ParsePlaces_lv n Try.f13 false [] (OSh.chk (OSh.plain (.b) [])) 9 [] i0 (St.mk [AV.junk, AV.junk, AV.junk, AV.sl b5 [Kd.s, Kd.b, Kd.i IntKind.i64, Kd.s, Kd.s, Kd.sl [Kd.s, Kd.b, Kd.i IntKind.i64, Kd.s], Kd.s, Kd.b, Kd.i IntKind.i64, Kd.s, Kd.sl [Kd.s, Kd.b, Kd.i IntKind.i64, Kd.s, Kd.s, Kd.sl [Kd.s, Kd.b, Kd.i IntKind.i64, Kd.s], Kd.s, Kd.b, Kd.i IntKind.i64, Kd.s]] r6 Right.no, AV.dv (DV.val (Value.int IntKind.i64 j7)), AV.dv (DV.val (Value.int IntKind.i64 j8)), AV.sl b9 [Kd.i IntKind.i64, Kd.s, Kd.i IntKind.i64, Kd.i IntKind.i64] r10 Right.no, AV.junk, AV.junk, AV.dv (DV.val (Value.bool b11)), AV.dv (DV.val (Value.int IntKind.i64 j14)), AV.junk, AV.junk, AV.junk, AV.junk, AV.junk, AV.junk, AV.junk, AV.junk, AV.junk, AV.junk, AV.junk, AV.junk, AV.junk, AV.junk, AV.junk, AV.junk, AV.junk, AV.junk, AV.junk, AV.junk, AV.junk, AV.junk, AV.junk, AV.junk, AV.junk, AV.junk, AV.junk, AV.junk, AV.junk, AV.junk, AV.junk, AV.junk, AV.junk, AV.junk, AV.junk, AV.junk, AV.junk, AV.junk, AV.junk, AV.junk, AV.junk, AV.junk, AV.junk, AV.junk, AV.junk, AV.junk, AV.junk, AV.junk, AV.junk, AV.junk, AV.junk, AV.junk, AV.junk, AV.junk, AV.junk, AV.junk, AV.junk, AV.junk, AV.junk, AV.junk, AV.junk, AV.junk, AV.junk, AV.junk, AV.junk, AV.junk, AV.junk, AV.junk, AV.junk, AV.junk, AV.junk, AV.junk, AV.junk, AV.junk, AV.junk, AV.junk, AV.junk, AV.junk, AV.junk] [])
theorem law08_ParsePlaces_s9 (n : Nat) (s0 : ByteArray) (i0 : Nat) (b5 : Bool) (r6 : List (List DV)) (j7 : Int) (j8 : Int) (b9 : Bool) (r10 : List (List DV)) (b11 : Bool) (j14 : Int) : law08_ParsePlaces_l9 n s0 (i0 + 1) b5 r6 j7 j8 b9 r10 b11 j14 =
  bif decide (j14 < (↑(List.length r10) : Int)) then
    bif b11 then
      law08_ParsePlaces_l9 n s0 i0 b5 r6 j7 j8 b9 r10 true (IntKind.wrap IntKind.i64 (j14 + 1))
    else if 0 ≤ j14 then
      if j14 < (↑(List.length r10) : Int) then
        law08_ParsePlaces_l9 n s0 i0 b5 r6 j7 j8 b9 r10 (Row.I (List.getD r10 (Int.toNat j14) []) 3 == j7) (IntKind.wrap IntKind.i64 (j14 + 1))
      else none
    else none
  else bif b11 then
    bif (↑(List.length r6) : Int) == 0 then
      bif j8 == 80 then
        obind (law08_live_v n) fun y15 =>
        some (y15.fst, ())
      else bif j8 == 81 then
        obind (law08_live_v n) fun y16 =>
        some (y16.fst, ())
      else some (false, ())
    else some (false, ())
  else some (false, ()) := by kernel_rfl
theorem law08_ParsePlaces_e (n : Nat) (s0 : ByteArray) : law08_ParsePlaces_v n s0 =
  obind (parse_Program_v n s0) fun y1 =>
  bif y1.fst.snd.snd.fst == 0 then
    bif y1.fst.snd.fst == 0 then
      bif decide ((↑(List.length y1.fst.fst.snd) : Int) ≤ 16) then
        obind (law08_live_v n) fun y2 =>
        some (y2.fst, ())
      else some (false, ())
    else some (false, ())
  else obind (ref07_Tokens_v n s0) fun y3 =>
  bif y3.fst.snd.snd.fst != 0 then
    bif y1.fst.snd.snd.fst == y3.fst.snd.snd.fst then
      bif y1.fst.snd.fst == y3.fst.snd.fst then
        bif (↑(List.length y1.fst.fst.snd) : Int) == 0 then
          obind (law08_live_v n) fun y4 =>
          some (y4.fst, ())
        else some (false, ())
      else some (false, ())
    else some (false, ())
  else law08_ParsePlaces_l9 n s0 n y1.fst.fst.fst y1.fst.fst.snd y1.fst.snd.fst y1.fst.snd.snd.fst y3.fst.fst.fst y3.fst.fst.snd (y1.fst.snd.fst == (↑(ByteArray.size s0) : Int)) 0 := by kernel_rfl
theorem law08_ParsePlaces_c (n : Nat) (s0 : ByteArray) (y : Bool × Unit) (h : law08_ParsePlaces_v n s0 = some y) : Contract Try.prog 13 [AV.dv (DV.val (Value.string s0))] [] (OSh.enc (OSh.plain (.b) []) y) :=
  auto_okM tm_std (with_ok mixed (by kernel_rfl) (law08_ParsePlaces_σok n) n 0 []) (with_pick mixed (by kernel_rfl) (law08_ParsePlaces_σok n) n 0 []) mixed Try.func13 (by decide) (o := (OSh.plain (.b) [])) h
end Go.Den
