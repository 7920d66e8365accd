import Derived.Test.YtamalelonhdfaaaE11a
set_option linter.unusedVariables false
set_option linter.unusedSimpArgs false
set_option linter.unusedSectionVars false
namespace Go.Den
open Go.Proofs
set_option maxRecDepth 100000
/-! law11_MatchLiterals: function 4 -/
def law11_MatchLiterals_lv : Live := []
noncomputable def law11_MatchLiterals_σ (n : Nat) : Spec := (inst 15 [.agg [.s, .b, .i IntKind.i64, .s, .s, .sl [Kd.s, Kd.b, Kd.i IntKind.i64, Kd.s], .s, .b, .i IntKind.i64, .s, .sl [Kd.s, Kd.b, Kd.i IntKind.i64, Kd.s, Kd.s, Kd.sl [Kd.s, Kd.b, Kd.i IntKind.i64, Kd.s], Kd.s, Kd.b, Kd.i IntKind.i64, Kd.s]], .sl [Kd.s, Kd.s, Kd.s, Kd.sl [Kd.b, Kd.i IntKind.i64, Kd.s]], .sl [Kd.s, Kd.b, Kd.i IntKind.i64, Kd.s]] [] (OSh.plain (.b) []) (fun x e => law11_light_v n x.1.1 x.1.2.1 x.1.2.2.1 x.1.2.2.2.1 x.1.2.2.2.2.1 x.1.2.2.2.2.2.1.1 x.1.2.2.2.2.2.1.2 x.1.2.2.2.2.2.2.1 x.1.2.2.2.2.2.2.2.1 x.1.2.2.2.2.2.2.2.2.1 x.1.2.2.2.2.2.2.2.2.2.1 x.1.2.2.2.2.2.2.2.2.2.2.1.1 x.1.2.2.2.2.2.2.2.2.2.2.1.2 x.2.1.1 x.2.1.2 x.2.2.1.1 x.2.2.1.2) (inst 9 [] [] (OSh.plain (.b) []) (fun x e => law11_live_v n) (inst 16 [.agg [.s, .b, .i IntKind.i64, .s], .agg [.s, .b, .i IntKind.i64, .s, .s, .sl [Kd.s, Kd.b, Kd.i IntKind.i64, Kd.s], .s, .b, .i IntKind.i64, .s], .agg [.s, .s, .s, .sl [Kd.b, Kd.i IntKind.i64, Kd.s]], .sl [Kd.s, Kd.b, Kd.i IntKind.i64, Kd.s]] [] (OSh.plain (.tup [.slt [Kd.s, Kd.b, Kd.i IntKind.i64, Kd.s] 0, .b]) []) (fun x e => match_Literal_v n x.1.1 x.1.2.1 x.1.2.2.1 x.1.2.2.2.1 x.2.1.1 x.2.1.2.1 x.2.1.2.2.1 x.2.1.2.2.2.1 x.2.1.2.2.2.2.1 x.2.1.2.2.2.2.2.1.1 x.2.1.2.2.2.2.2.1.2 x.2.1.2.2.2.2.2.2.1 x.2.1.2.2.2.2.2.2.2.1 x.2.1.2.2.2.2.2.2.2.2.1 x.2.1.2.2.2.2.2.2.2.2.2.1 x.2.2.1.1 x.2.2.1.2.1 x.2.2.1.2.2.1 x.2.2.1.2.2.2.1.1 x.2.2.1.2.2.2.1.2 x.2.2.2.1.1 x.2.2.2.1.2) (inst 17 [.agg [.s, .b, .i IntKind.i64, .s], .agg [.s, .b, .i IntKind.i64, .s, .s, .sl [Kd.s, Kd.b, Kd.i IntKind.i64, Kd.s], .s, .b, .i IntKind.i64, .s], .agg [.s, .s, .s, .sl [Kd.b, Kd.i IntKind.i64, Kd.s]], .sl [Kd.s, Kd.b, Kd.i IntKind.i64, Kd.s]] [] (OSh.plain (.tup [.slt [Kd.s, Kd.b, Kd.i IntKind.i64, Kd.s] 0, .b]) []) (fun x e => ref11_Literal_v n x.1.1 x.1.2.1 x.1.2.2.1 x.1.2.2.2.1 x.2.1.1 x.2.1.2.1 x.2.1.2.2.1 x.2.1.2.2.2.1 x.2.1.2.2.2.2.1 x.2.1.2.2.2.2.2.1.1 x.2.1.2.2.2.2.2.1.2 x.2.1.2.2.2.2.2.2.1 x.2.1.2.2.2.2.2.2.2.1 x.2.1.2.2.2.2.2.2.2.2.1 x.2.1.2.2.2.2.2.2.2.2.2.1 x.2.2.1.1 x.2.2.1.2.1 x.2.2.1.2.2.1 x.2.2.1.2.2.2.1.1 x.2.2.1.2.2.2.1.2 x.2.2.2.1.1 x.2.2.2.1.2) (inst 14 [.sl [Kd.s, Kd.b, Kd.i IntKind.i64, Kd.s], .sl [Kd.s, Kd.b, Kd.i IntKind.i64, Kd.s]] [] (OSh.plain (.b) []) (fun x e => ref11_Like_v n x.1.1 x.1.2 x.2.1.1 x.2.1.2) Spec.none)))))
theorem law11_MatchLiterals_σok (n : Nat) : SpecOk Try.prog (law11_MatchLiterals_σ n) := (inst_ok (fun x e y h => law11_light_c n x.1.1 x.1.2.1 x.1.2.2.1 x.1.2.2.2.1 x.1.2.2.2.2.1 x.1.2.2.2.2.2.1.1 x.1.2.2.2.2.2.1.2 x.1.2.2.2.2.2.2.1 x.1.2.2.2.2.2.2.2.1 x.1.2.2.2.2.2.2.2.2.1 x.1.2.2.2.2.2.2.2.2.2.1 x.1.2.2.2.2.2.2.2.2.2.2.1.1 x.1.2.2.2.2.2.2.2.2.2.2.1.2 x.2.1.1 x.2.1.2 x.2.2.1.1 x.2.2.1.2 y h) (inst_ok (fun x e y h => law11_live_c n y h) (inst_ok (fun x e y h => match_Literal_c n x.1.1 x.1.2.1 x.1.2.2.1 x.1.2.2.2.1 x.2.1.1 x.2.1.2.1 x.2.1.2.2.1 x.2.1.2.2.2.1 x.2.1.2.2.2.2.1 x.2.1.2.2.2.2.2.1.1 x.2.1.2.2.2.2.2.1.2 x.2.1.2.2.2.2.2.2.1 x.2.1.2.2.2.2.2.2.2.1 x.2.1.2.2.2.2.2.2.2.2.1 x.2.1.2.2.2.2.2.2.2.2.2.1 x.2.2.1.1 x.2.2.1.2.1 x.2.2.1.2.2.1 x.2.2.1.2.2.2.1.1 x.2.2.1.2.2.2.1.2 x.2.2.2.1.1 x.2.2.2.1.2 y h) (inst_ok (fun x e y h => ref11_Literal_c n x.1.1 x.1.2.1 x.1.2.2.1 x.1.2.2.2.1 x.2.1.1 x.2.1.2.1 x.2.1.2.2.1 x.2.1.2.2.2.1 x.2.1.2.2.2.2.1 x.2.1.2.2.2.2.2.1.1 x.2.1.2.2.2.2.2.1.2 x.2.1.2.2.2.2.2.2.1 x.2.1.2.2.2.2.2.2.2.1 x.2.1.2.2.2.2.2.2.2.2.1 x.2.1.2.2.2.2.2.2.2.2.2.1 x.2.2.1.1 x.2.2.1.2.1 x.2.2.1.2.2.1 x.2.2.1.2.2.2.1.1 x.2.2.1.2.2.2.1.2 x.2.2.2.1.1 x.2.2.2.1.2 y h) (inst_ok (fun x e y h => ref11_Like_c n x.1.1 x.1.2 x.2.1.1 x.2.1.2 y h) (SpecOk.none _))))))
noncomputable def law11_MatchLiterals_Φ (n : Nat) : Orc := with_ Try.prog (law11_MatchLiterals_σ n) [] n 0 []
noncomputable def law11_MatchLiterals_v (n : Nat) (s0 : ByteArray) (b1 : Bool) (j2 : Int) (s3 : ByteArray) (s4 : ByteArray) (b5 : Bool) (r6 : Rows) (s7 : ByteArray) (b8 : Bool) (j9 : Int) (s10 : ByteArray) (b11 : Bool) (r12 : Rows) (s13 : ByteArray) (s14 : ByteArray) (s15 : ByteArray) (b16 : Bool) (r17 : Rows) (b18 : Bool) (r19 : Rows) : Option (Bool × Unit) :=
  DM.denFn tm (law11_MatchLiterals_Φ n) law11_MatchLiterals_lv n Try.f4 false [AV.agg [AV.dv (DV.val (Value.string s0)), AV.dv (DV.val (Value.bool b1)), AV.dv (DV.val (Value.int IntKind.i64 j2)), AV.dv (DV.val (Value.string s3)), AV.dv (DV.val (Value.string s4)), AV.sl b5 [Kd.s, Kd.b, Kd.i IntKind.i64, Kd.s] r6 Right.no, AV.dv (DV.val (Value.string s7)), AV.dv (DV.val (Value.bool b8)), AV.dv (DV.val (Value.int IntKind.i64 j9)), AV.dv (DV.val (Value.string s10)), AV.sl b11 [Kd.s, Kd.b, Kd.i IntKind.i64, Kd.s, Kd.s, Kd.sl [Kd.s, Kd.b, Kd.i IntKind.i64, Kd.s], Kd.s, Kd.b, Kd.i IntKind.i64, Kd.s] r12 Right.no], AV.agg [AV.dv (DV.val (Value.string s13)), AV.dv (DV.val (Value.string s14)), AV.dv (DV.val (Value.string s15)), AV.sl b16 [Kd.b, Kd.i IntKind.i64, Kd.s] r17 Right.no], AV.sl b18 [Kd.s, Kd.b, Kd.i IntKind.i64, Kd.s] r19 Right.no] [] (OSh.chk (OSh.plain (.b) []))
theorem law11_MatchLiterals_e (n : Nat) (s0 : ByteArray) (b1 : Bool) (j2 : Int) (s3 : ByteArray) (s4 : ByteArray) (b5 : Bool) (r6 : Rows) (s7 : ByteArray) (b8 : Bool) (j9 : Int) (s10 : ByteArray) (b11 : Bool) (r12 : Rows) (s13 : ByteArray) (s14 : ByteArray) (s15 : ByteArray) (b16 : Bool) (r17 : Rows) (b18 : Bool) (r19 : Rows) : law11_MatchLiterals_v n s0 b1 j2 s3 s4 b5 r6 s7 b8 j9 s10 b11 r12 s13 s14 s15 b16 r17 b18 r19 =
  obind (law11_light_v n s0 b1 j2 s3 s4 b5 r6 s7 b8 j9 s10 b11 r12 false ([[DV.val (Value.string s13), DV.val (Value.string s14), DV.val (Value.string s15), DV.sl b16 [Kd.b, Kd.i IntKind.i64, Kd.s] r17]]) b18 r19) fun y20 =>
  bif !y20.fst then
    obind (law11_live_v n) fun y21 =>
    some (y21.fst, ())
  else bif (↑(List.length r12) : Int) == 0 then
    obind (law11_live_v n) fun y22 =>
    some (y22.fst, ())
  else if 0 < (↑(List.length r12) : Int) then
    obind (match_Literal_v n s0 b1 j2 s3 (Row.S (List.getD r12 0 []) 0) (Row.B (List.getD r12 0 []) 1) (Row.I (List.getD r12 0 []) 2) (Row.S (List.getD r12 0 []) 3) (Row.S (List.getD r12 0 []) 4) (Row.N (List.getD r12 0 []) 5) (Row.R (List.getD r12 0 []) 5) (Row.S (List.getD r12 0 []) 6) (Row.B (List.getD r12 0 []) 7) (Row.I (List.getD r12 0 []) 8) (Row.S (List.getD r12 0 []) 9) s13 s14 s15 b16 r17 b18 r19) fun y23 =>
    if 0 < (↑(List.length r12) : Int) then
      obind (ref11_Literal_v n s0 b1 j2 s3 (Row.S (List.getD r12 0 []) 0) (Row.B (List.getD r12 0 []) 1) (Row.I (List.getD r12 0 []) 2) (Row.S (List.getD r12 0 []) 3) (Row.S (List.getD r12 0 []) 4) (Row.N (List.getD r12 0 []) 5) (Row.R (List.getD r12 0 []) 5) (Row.S (List.getD r12 0 []) 6) (Row.B (List.getD r12 0 []) 7) (Row.I (List.getD r12 0 []) 8) (Row.S (List.getD r12 0 []) 9) s13 s14 s15 b16 r17 b18 r19) fun y24 =>
      obind (ref11_Like_v n y23.fst.fst.fst y23.fst.fst.snd y24.fst.fst.fst y24.fst.fst.snd) fun y25 =>
      bif y25.fst then
        bif y23.fst.snd.fst == y24.fst.snd.fst then
          obind (law11_live_v n) fun y26 =>
          some (y26.fst, ())
        else some (false, ())
      else some (false, ())
    else none
  else none := by kernel_rfl
theorem law11_MatchLiterals_c (n : Nat) (s0 : ByteArray) (b1 : Bool) (j2 : Int) (s3 : ByteArray) (s4 : ByteArray) (b5 : Bool) (r6 : Rows) (s7 : ByteArray) (b8 : Bool) (j9 : Int) (s10 : ByteArray) (b11 : Bool) (r12 : Rows) (s13 : ByteArray) (s14 : ByteArray) (s15 : ByteArray) (b16 : Bool) (r17 : Rows) (b18 : Bool) (r19 : Rows) (y : Bool × Unit) (h : law11_MatchLiterals_v n s0 b1 j2 s3 s4 b5 r6 s7 b8 j9 s10 b11 r12 s13 s14 s15 b16 r17 b18 r19 = some y) : Contract Try.prog 4 [AV.agg [AV.dv (DV.val (Value.string s0)), AV.dv (DV.val (Value.bool b1)), AV.dv (DV.val (Value.int IntKind.i64 j2)), AV.dv (DV.val (Value.string s3)), AV.dv (DV.val (Value.string s4)), AV.sl b5 [Kd.s, Kd.b, Kd.i IntKind.i64, Kd.s] r6 Right.no, AV.dv (DV.val (Value.string s7)), AV.dv (DV.val (Value.bool b8)), AV.dv (DV.val (Value.int IntKind.i64 j9)), AV.dv (DV.val (Value.string s10)), AV.sl b11 [Kd.s, Kd.b, Kd.i IntKind.i64, Kd.s, Kd.s, Kd.sl [Kd.s, Kd.b, Kd.i IntKind.i64, Kd.s], Kd.s, Kd.b, Kd.i IntKind.i64, Kd.s] r12 Right.no], AV.agg [AV.dv (DV.val (Value.string s13)), AV.dv (DV.val (Value.string s14)), AV.dv (DV.val (Value.string s15)), AV.sl b16 [Kd.b, Kd.i IntKind.i64, Kd.s] r17 Right.no], AV.sl b18 [Kd.s, Kd.b, Kd.i IntKind.i64, Kd.s] r19 Right.no] [] (OSh.enc (OSh.plain (.b) []) y) :=
  auto_okM tm_std (with_ok mixed (by kernel_rfl) (law11_MatchLiterals_σok n) n 0 []) (with_pick mixed (by kernel_rfl) (law11_MatchLiterals_σok n) n 0 []) mixed Try.func4 (by decide) (o := (OSh.plain (.b) [])) h
/-! ref04_texts: function 37 -/
def ref04_texts_lv : Live := []
noncomputable def ref04_texts_σ (n : Nat) : Spec := Spec.none
theorem ref04_texts_σok (n : Nat) : SpecOk Try.prog (ref04_texts_σ n) := (SpecOk.none _)
noncomputable def ref04_texts_Φ (n : Nat) : Orc := with_ Try.prog (ref04_texts_σ n) [] n 0 []
noncomputable def ref04_texts_v (n : Nat) (s0 : ByteArray) (s1 : ByteArray) : Option (Int × Unit) :=
  DM.denFn tm (ref04_texts_Φ n) ref04_texts_lv n Try.f37 false [AV.dv (DV.val (Value.string s0)), AV.dv (DV.val (Value.string s1))] [] (OSh.chk (OSh.plain (.i IntKind.i64) []))
theorem ref04_texts_e (n : Nat) (s0 : ByteArray) (s1 : ByteArray) : ref04_texts_v n s0 s1 =
  bif Op.bytesLess (ByteArray.toList s0) (ByteArray.toList s1) then
    some (-1, ())
  else bif !(Op.bytesLess (ByteArray.toList s0) (ByteArray.toList s1) || s0 == s1) then
    some (1, ())
  else some (0, ()) := by kernel_rfl
theorem ref04_texts_c (n : Nat) (s0 : ByteArray) (s1 : ByteArray) (y : Int × Unit) (h : ref04_texts_v n s0 s1 = some y) : Contract Try.prog 37 [AV.dv (DV.val (Value.string s0)), AV.dv (DV.val (Value.string s1))] [] (OSh.enc (OSh.plain (.i IntKind.i64) []) y) :=
  auto_okM tm_std (with_ok mixed (by kernel_rfl) (ref04_texts_σok n) n 0 []) (with_pick mixed (by kernel_rfl) (ref04_texts_σok n) n 0 []) mixed Try.func37 (by decide) (o := (OSh.plain (.i IntKind.i64) [])) h
/-! ref04_Compare: function 38 -/
def ref04_Compare_lv : Live := []
noncomputable def ref04_Compare_σ (n : Nat) : Spec := (inst 37 [.s, .s] [] (OSh.plain (.i IntKind.i64) []) (fun x e => ref04_texts_v n x.1 x.2.1) Spec.none)
theorem ref04_Compare_σok (n : Nat) : SpecOk Try.prog (ref04_Compare_σ n) := (inst_ok (fun x e y h => ref04_texts_c n x.1 x.2.1 y h) (SpecOk.none _))
noncomputable def ref04_Compare_Φ (n : Nat) : Orc := with_ Try.prog (ref04_Compare_σ n) [] n 0 []
noncomputable def ref04_Compare_v (n : Nat) (b0 : Bool) (j1 : Int) (s2 : ByteArray) (b3 : Bool) (j4 : Int) (s5 : ByteArray) : Option (Int × Unit) :=
  DM.denFn tm (ref04_Compare_Φ n) ref04_Compare_lv n Try.f38 false [AV.agg [AV.dv (DV.val (Value.bool b0)), AV.dv (DV.val (Value.int IntKind.i64 j1)), AV.dv (DV.val (Value.string s2))], AV.agg [AV.dv (DV.val (Value.bool b3)), AV.dv (DV.val (Value.int IntKind.i64 j4)), AV.dv (DV.val (Value.string s5))]] [] (OSh.chk (OSh.plain (.i IntKind.i64) []))
theorem ref04_Compare_e (n : Nat) (b0 : Bool) (j1 : Int) (s2 : ByteArray) (b3 : Bool) (j4 : Int) (s5 : ByteArray) : ref04_Compare_v n b0 j1 s2 b3 j4 s5 =
  bif b0 then
    bif !b3 then
      some (-1, ())
    else bif b3 then
      bif !b0 then
        some (1, ())
      else bif decide (j1 < j4) then
        some (-1, ())
      else bif decide (j1 > j4) then
        some (1, ())
      else obind (ref04_texts_v n s2 s5) fun y6 =>
      some (y6.fst, ())
    else bif decide (j1 < j4) then
      some (-1, ())
    else bif decide (j1 > j4) then
      some (1, ())
    else obind (ref04_texts_v n s2 s5) fun y7 =>
    some (y7.fst, ())
  else bif b3 then
    bif !b0 then
      some (1, ())
    else bif decide (j1 < j4) then
      some (-1, ())
    else bif decide (j1 > j4) then
      some (1, ())
    else obind (ref04_texts_v n s2 s5) fun y8 =>
    some (y8.fst, ())
  else bif decide (j1 < j4) then
    some (-1, ())
  else bif decide (j1 > j4) then
    some (1, ())
  else obind (ref04_texts_v n s2 s5) fun y9 =>
  some (y9.fst, ()) := by kernel_rfl
theorem ref04_Compare_c (n : Nat) (b0 : Bool) (j1 : Int) (s2 : ByteArray) (b3 : Bool) (j4 : Int) (s5 : ByteArray) (y : Int × Unit) (h : ref04_Compare_v n b0 j1 s2 b3 j4 s5 = some y) : Contract Try.prog 38 [AV.agg [AV.dv (DV.val (Value.bool b0)), AV.dv (DV.val (Value.int IntKind.i64 j1)), AV.dv (DV.val (Value.string s2))], AV.agg [AV.dv (DV.val (Value.bool b3)), AV.dv (DV.val (Value.int IntKind.i64 j4)), AV.dv (DV.val (Value.string s5))]] [] (OSh.enc (OSh.plain (.i IntKind.i64) []) y) :=
  auto_okM tm_std (with_ok mixed (by kernel_rfl) (ref04_Compare_σok n) n 0 []) (with_pick mixed (by kernel_rfl) (ref04_Compare_σok n) n 0 []) mixed Try.func38 (by decide) (o := (OSh.plain (.i IntKind.i64) [])) h
/-! ref04_Order: function 18 -/
def ref04_Order_lv : Live := [(8, [2, 3, 5], [2, 3, 1000, 1001, 1002, 1003])]
noncomputable def ref04_Order_σ (n : Nat) : Spec := (inst 37 [.s, .s] [] (OSh.plain (.i IntKind.i64) []) (fun x e => ref04_texts_v n x.1 x.2.1) (inst 38 [.agg [.b, .i IntKind.i64, .s], .agg [.b, .i IntKind.i64, .s]] [] (OSh.plain (.i IntKind.i64) []) (fun x e => ref04_Compare_v n x.1.1 x.1.2.1 x.1.2.2.1 x.2.1.1 x.2.1.2.1 x.2.1.2.2.1) Spec.none))
theorem ref04_Order_σok (n : Nat) : SpecOk Try.prog (ref04_Order_σ n) := (inst_ok (fun x e y h => ref04_texts_c n x.1 x.2.1 y h) (inst_ok (fun x e y h => ref04_Compare_c n x.1.1 x.1.2.1 x.1.2.2.1 x.2.1.1 x.2.1.2.1 x.2.1.2.2.1 y h) (SpecOk.none _)))
noncomputable def ref04_Order_Φ (n : Nat) : Orc := with_ Try.prog (ref04_Order_σ n) [] n 0 []
noncomputable def ref04_Order_v (n : Nat) (s0 : ByteArray) (s1 : ByteArray) (s2 : ByteArray) (b3 : Bool) (r4 : Rows) (s5 : ByteArray) (s6 : ByteArray) (s7 : ByteArray) (b8 : Bool) (r9 : Rows) : Option (Int × Unit) :=
  DM.denFn tm (ref04_Order_Φ n) ref04_Order_lv n Try.f18 false [AV.agg [AV.dv (DV.val (Value.string s0)), AV.dv (DV.val (Value.string s1)), AV.dv (DV.val (Value.string s2)), AV.sl b3 [Kd.b, Kd.i IntKind.i64, Kd.s] r4 Right.no], AV.agg [AV.dv (DV.val (Value.string s5)), AV.dv (DV.val (Value.string s6)), AV.dv (DV.val (Value.string s7)), AV.sl b8 [Kd.b, Kd.i IntKind.i64, Kd.s] r9 Right.no]] [] (OSh.chk (OSh.plain (.i IntKind.i64) []))
noncomputable def ref04_Order_l8 (n : Nat) (s0 : ByteArray) (s1 : ByteArray) (s2 : ByteArray) (b3 : Bool) (r4 : Rows) (s5 : ByteArray) (s6 : ByteArray) (s7 : ByteArray) (b8 : Bool) (r9 : Rows) (i0 : Nat) (j14 : Int) : Option (Int × Unit) :=
  DM.loopFn tm (ref04_Order_Φ n) ref04_Order_lv n Try.f18 false [] (OSh.chk (OSh.plain (.i IntKind.i64) [])) 8 [] i0 (St.mk [AV.junk, AV.junk, AV.pl 2 0, AV.pl 3 0, AV.junk, AV.dv (DV.val (Value.int IntKind.i64 j14)), AV.junk, AV.junk, AV.junk, AV.junk, AV.junk, AV.junk, AV.junk, AV.junk, AV.junk, AV.junk, AV.junk, AV.junk, AV.junk, AV.junk, AV.junk, AV.junk, AV.junk, AV.junk, AV.junk, AV.junk, AV.junk, AV.junk, AV.junk, AV.junk, AV.junk, AV.junk, AV.junk, AV.junk, AV.junk, AV.junk, AV.junk, AV.junk, AV.junk, AV.junk, AV.junk, AV.junk, AV.junk, AV.junk, AV.junk, AV.junk, AV.junk, AV.junk, AV.junk, AV.junk, AV.junk, AV.junk, AV.junk, AV.junk, AV.junk, AV.junk, AV.junk, AV.junk, AV.junk, AV.junk, AV.junk, AV.junk, AV.junk, AV.junk, AV.junk, AV.junk, AV.junk, AV.junk, AV.junk, AV.junk, AV.junk, AV.junk, AV.junk, AV.junk, AV.junk, AV.junk, AV.junk, AV.junk, AV.junk] [(2, [AV.dv (DV.val (Value.string s0)), AV.dv (DV.val (Value.string s1)), AV.dv (DV.val (Value.string s2)), AV.sl b3 [Kd.b, Kd.i IntKind.i64, Kd.s] r4 Right.no]), (3, [AV.dv (DV.val (Value.string s5)), AV.dv (DV.val (Value.string s6)), AV.dv (DV.val (Value.string s7)), AV.sl b8 [Kd.b, Kd.i IntKind.i64, Kd.s] r9 Right.no])])
theorem ref04_Order_s8 (n : Nat) (s0 : ByteArray) (s1 : ByteArray) (s2 : ByteArray) (b3 : Bool) (r4 : Rows) (s5 : ByteArray) (s6 : ByteArray) (s7 : ByteArray) (b8 : Bool) (r9 : Rows) (i0 : Nat) (j14 : Int) : ref04_Order_l8 n s0 s1 s2 b3 r4 s5 s6 s7 b8 r9 (i0 + 1) j14 =
  bif decide (j14 < (↑(List.length r4) : Int)) then
    bif decide (j14 < (↑(List.length r9) : Int)) then
      if 0 ≤ j14 then
        if j14 < (↑(List.length r4) : Int) then
          if 0 ≤ j14 then
            if j14 < (↑(List.length r9) : Int) then
              obind (ref04_Compare_v n (Row.B (List.getD r4 (Int.toNat j14) []) 0) (Row.I (List.getD r4 (Int.toNat j14) []) 1) (Row.S (List.getD r4 (Int.toNat j14) []) 2) (Row.B (List.getD r9 (Int.toNat j14) []) 0) (Row.I (List.getD r9 (Int.toNat j14) []) 1) (Row.S (List.getD r9 (Int.toNat j14) []) 2)) fun y15 =>
              bif y15.fst != 0 then
                some (y15.fst, ())
              else ref04_Order_l8 n s0 s1 s2 b3 r4 s5 s6 s7 b8 r9 i0 (IntKind.wrap IntKind.i64 (j14 + 1))
            else none
          else none
        else none
      else none
    else bif decide ((↑(List.length r4) : Int) < (↑(List.length r9) : Int)) then
      some (-1, ())
    else bif decide ((↑(List.length r4) : Int) > (↑(List.length r9) : Int)) then
      some (1, ())
    else some (0, ())
  else bif decide ((↑(List.length r4) : Int) < (↑(List.length r9) : Int)) then
    some (-1, ())
  else bif decide ((↑(List.length r4) : Int) > (↑(List.length r9) : Int)) then
    some (1, ())
  else some (0, ()) := by kernel_rfl
theorem ref04_Order_e (n : Nat) (s0 : ByteArray) (s1 : ByteArray) (s2 : ByteArray) (b3 : Bool) (r4 : Rows) (s5 : ByteArray) (s6 : ByteArray) (s7 : ByteArray) (b8 : Bool) (r9 : Rows) : ref04_Order_v n s0 s1 s2 b3 r4 s5 s6 s7 b8 r9 =
  bif !s0 == s5 then
    obind (ref04_texts_v n s0 s5) fun y10 =>
    some (y10.fst, ())
  else bif !s1 == s6 then
    obind (ref04_texts_v n s1 s6) fun y11 =>
    some (y11.fst, ())
  else bif !s2 == s7 then
    obind (ref04_texts_v n s2 s7) fun y12 =>
    some (y12.fst, ())
  else ref04_Order_l8 n s0 s1 s2 b3 r4 s5 s6 s7 b8 r9 n 0 := by kernel_rfl
theorem ref04_Order_c (n : Nat) (s0 : ByteArray) (s1 : ByteArray) (s2 : ByteArray) (b3 : Bool) (r4 : Rows) (s5 : ByteArray) (s6 : ByteArray) (s7 : ByteArray) (b8 : Bool) (r9 : Rows) (y : Int × Unit) (h : ref04_Order_v n s0 s1 s2 b3 r4 s5 s6 s7 b8 r9 = some y) : Contract Try.prog 18 [AV.agg [AV.dv (DV.val (Value.string s0)), AV.dv (DV.val (Value.string s1)), AV.dv (DV.val (Value.string s2)), AV.sl b3 [Kd.b, Kd.i IntKind.i64, Kd.s] r4 Right.no], AV.agg [AV.dv (DV.val (Value.string s5)), AV.dv (DV.val (Value.string s6)), AV.dv (DV.val (Value.string s7)), AV.sl b8 [Kd.b, Kd.i IntKind.i64, Kd.s] r9 Right.no]] [] (OSh.enc (OSh.plain (.i IntKind.i64) []) y) :=
  auto_okM tm_std (with_ok mixed (by kernel_rfl) (ref04_Order_σok n) n 0 []) (with_pick mixed (by kernel_rfl) (ref04_Order_σok n) n 0 []) mixed Try.func18 (by decide) (o := (OSh.plain (.i IntKind.i64) [])) h
/-! law11_MatchGrows: function 5 -/
def law11_MatchGrows_lv : Live := []
noncomputable def law11_MatchGrows_σ (n : Nat) : Spec := (inst 15 [.agg [.s, .b, .i IntKind.i64, .s, .s, .sl [Kd.s, Kd.b, Kd.i IntKind.i64, Kd.s], .s, .b, .i IntKind.i64, .s, .sl [Kd.s, Kd.b, Kd.i IntKind.i64, Kd.s, Kd.s, Kd.sl [Kd.s, Kd.b, Kd.i IntKind.i64, Kd.s], Kd.s, Kd.b, Kd.i IntKind.i64, Kd.s]], .sl [Kd.s, Kd.s, Kd.s, Kd.sl [Kd.b, Kd.i IntKind.i64, Kd.s]], .sl [Kd.s, Kd.b, Kd.i IntKind.i64, Kd.s]] [] (OSh.plain (.b) []) (fun x e => law11_light_v n x.1.1 x.1.2.1 x.1.2.2.1 x.1.2.2.2.1 x.1.2.2.2.2.1 x.1.2.2.2.2.2.1.1 x.1.2.2.2.2.2.1.2 x.1.2.2.2.2.2.2.1 x.1.2.2.2.2.2.2.2.1 x.1.2.2.2.2.2.2.2.2.1 x.1.2.2.2.2.2.2.2.2.2.1 x.1.2.2.2.2.2.2.2.2.2.2.1.1 x.1.2.2.2.2.2.2.2.2.2.2.1.2 x.2.1.1 x.2.1.2 x.2.2.1.1 x.2.2.1.2) (inst 9 [] [] (OSh.plain (.b) []) (fun x e => law11_live_v n) (inst 16 [.agg [.s, .b, .i IntKind.i64, .s], .agg [.s, .b, .i IntKind.i64, .s, .s, .sl [Kd.s, Kd.b, Kd.i IntKind.i64, Kd.s], .s, .b, .i IntKind.i64, .s], .agg [.s, .s, .s, .sl [Kd.b, Kd.i IntKind.i64, Kd.s]], .sl [Kd.s, Kd.b, Kd.i IntKind.i64, Kd.s]] [] (OSh.plain (.tup [.slt [Kd.s, Kd.b, Kd.i IntKind.i64, Kd.s] 0, .b]) []) (fun x e => match_Literal_v n x.1.1 x.1.2.1 x.1.2.2.1 x.1.2.2.2.1 x.2.1.1 x.2.1.2.1 x.2.1.2.2.1 x.2.1.2.2.2.1 x.2.1.2.2.2.2.1 x.2.1.2.2.2.2.2.1.1 x.2.1.2.2.2.2.2.1.2 x.2.1.2.2.2.2.2.2.1 x.2.1.2.2.2.2.2.2.2.1 x.2.1.2.2.2.2.2.2.2.2.1 x.2.1.2.2.2.2.2.2.2.2.2.1 x.2.2.1.1 x.2.2.1.2.1 x.2.2.1.2.2.1 x.2.2.1.2.2.2.1.1 x.2.2.1.2.2.2.1.2 x.2.2.2.1.1 x.2.2.2.1.2) (inst 14 [.sl [Kd.s, Kd.b, Kd.i IntKind.i64, Kd.s], .sl [Kd.s, Kd.b, Kd.i IntKind.i64, Kd.s]] [] (OSh.plain (.b) []) (fun x e => ref11_Like_v n x.1.1 x.1.2 x.2.1.1 x.2.1.2) (inst 18 [.agg [.s, .s, .s, .sl [Kd.b, Kd.i IntKind.i64, Kd.s]], .agg [.s, .s, .s, .sl [Kd.b, Kd.i IntKind.i64, Kd.s]]] [] (OSh.plain (.i IntKind.i64) []) (fun x e => ref04_Order_v n x.1.1 x.1.2.1 x.1.2.2.1 x.1.2.2.2.1.1 x.1.2.2.2.1.2 x.2.1.1 x.2.1.2.1 x.2.1.2.2.1 x.2.1.2.2.2.1.1 x.2.1.2.2.2.1.2) Spec.none)))))
theorem law11_MatchGrows_σok (n : Nat) : SpecOk Try.prog (law11_MatchGrows_σ n) := (inst_ok (fun x e y h => law11_light_c n x.1.1 x.1.2.1 x.1.2.2.1 x.1.2.2.2.1 x.1.2.2.2.2.1 x.1.2.2.2.2.2.1.1 x.1.2.2.2.2.2.1.2 x.1.2.2.2.2.2.2.1 x.1.2.2.2.2.2.2.2.1 x.1.2.2.2.2.2.2.2.2.1 x.1.2.2.2.2.2.2.2.2.2.1 x.1.2.2.2.2.2.2.2.2.2.2.1.1 x.1.2.2.2.2.2.2.2.2.2.2.1.2 x.2.1.1 x.2.1.2 x.2.2.1.1 x.2.2.1.2 y h) (inst_ok (fun x e y h => law11_live_c n y h) (inst_ok (fun x e y h => match_Literal_c n x.1.1 x.1.2.1 x.1.2.2.1 x.1.2.2.2.1 x.2.1.1 x.2.1.2.1 x.2.1.2.2.1 x.2.1.2.2.2.1 x.2.1.2.2.2.2.1 x.2.1.2.2.2.2.2.1.1 x.2.1.2.2.2.2.2.1.2 x.2.1.2.2.2.2.2.2.1 x.2.1.2.2.2.2.2.2.2.1 x.2.1.2.2.2.2.2.2.2.2.1 x.2.1.2.2.2.2.2.2.2.2.2.1 x.2.2.1.1 x.2.2.1.2.1 x.2.2.1.2.2.1 x.2.2.1.2.2.2.1.1 x.2.2.1.2.2.2.1.2 x.2.2.2.1.1 x.2.2.2.1.2 y h) (inst_ok (fun x e y h => ref11_Like_c n x.1.1 x.1.2 x.2.1.1 x.2.1.2 y h) (inst_ok (fun x e y h => ref04_Order_c n x.1.1 x.1.2.1 x.1.2.2.1 x.1.2.2.2.1.1 x.1.2.2.2.1.2 x.2.1.1 x.2.1.2.1 x.2.1.2.2.1 x.2.1.2.2.2.1.1 x.2.1.2.2.2.1.2 y h) (SpecOk.none _))))))
noncomputable def law11_MatchGrows_Φ (n : Nat) : Orc := with_ Try.prog (law11_MatchGrows_σ n) [] n 0 []
noncomputable def law11_MatchGrows_v (n : Nat) (s0 : ByteArray) (b1 : Bool) (j2 : Int) (s3 : ByteArray) (s4 : ByteArray) (b5 : Bool) (r6 : Rows) (s7 : ByteArray) (b8 : Bool) (j9 : Int) (s10 : ByteArray) (b11 : Bool) (r12 : Rows) (s13 : ByteArray) (s14 : ByteArray) (s15 : ByteArray) (b16 : Bool) (r17 : Rows) (s18 : ByteArray) (s19 : ByteArray) (s20 : ByteArray) (b21 : Bool) (r22 : Rows) : Option (Bool × Unit) :=
  DM.denFn tm (law11_MatchGrows_Φ n) law11_MatchGrows_lv n Try.f5 false [AV.agg [AV.dv (DV.val (Value.string s0)), AV.dv (DV.val (Value.bool b1)), AV.dv (DV.val (Value.int IntKind.i64 j2)), AV.dv (DV.val (Value.string s3)), AV.dv (DV.val (Value.string s4)), AV.sl b5 [Kd.s, Kd.b, Kd.i IntKind.i64, Kd.s] r6 Right.no, AV.dv (DV.val (Value.string s7)), AV.dv (DV.val (Value.bool b8)), AV.dv (DV.val (Value.int IntKind.i64 j9)), AV.dv (DV.val (Value.string s10)), AV.sl b11 [Kd.s, Kd.b, Kd.i IntKind.i64, Kd.s, Kd.s, Kd.sl [Kd.s, Kd.b, Kd.i IntKind.i64, Kd.s], Kd.s, Kd.b, Kd.i IntKind.i64, Kd.s] r12 Right.no], AV.agg [AV.dv (DV.val (Value.string s13)), AV.dv (DV.val (Value.string s14)), AV.dv (DV.val (Value.string s15)), AV.sl b16 [Kd.b, Kd.i IntKind.i64, Kd.s] r17 Right.no], AV.agg [AV.dv (DV.val (Value.string s18)), AV.dv (DV.val (Value.string s19)), AV.dv (DV.val (Value.string s20)), AV.sl b21 [Kd.b, Kd.i IntKind.i64, Kd.s] r22 Right.no]] [] (OSh.chk (OSh.plain (.b) []))
theorem law11_MatchGrows_e (n : Nat) (s0 : ByteArray) (b1 : Bool) (j2 : Int) (s3 : ByteArray) (s4 : ByteArray) (b5 : Bool) (r6 : Rows) (s7 : ByteArray) (b8 : Bool) (j9 : Int) (s10 : ByteArray) (b11 : Bool) (r12 : Rows) (s13 : ByteArray) (s14 : ByteArray) (s15 : ByteArray) (b16 : Bool) (r17 : Rows) (s18 : ByteArray) (s19 : ByteArray) (s20 : ByteArray) (b21 : Bool) (r22 : Rows) : law11_MatchGrows_v n s0 b1 j2 s3 s4 b5 r6 s7 b8 j9 s10 b11 r12 s13 s14 s15 b16 r17 s18 s19 s20 b21 r22 =
  obind (law11_light_v n s0 b1 j2 s3 s4 b5 r6 s7 b8 j9 s10 b11 r12 false ([[DV.val (Value.string s13), DV.val (Value.string s14), DV.val (Value.string s15), DV.sl b16 [Kd.b, Kd.i IntKind.i64, Kd.s] r17], [DV.val (Value.string s18), DV.val (Value.string s19), DV.val (Value.string s20), DV.sl b21 [Kd.b, Kd.i IntKind.i64, Kd.s] r22]]) true []) fun y23 =>
  bif !y23.fst then
    obind (law11_live_v n) fun y24 =>
    some (y24.fst, ())
  else bif (↑(List.length r12) : Int) == 0 then
    obind (law11_live_v n) fun y25 =>
    some (y25.fst, ())
  else if 0 < (↑(List.length r12) : Int) then
    obind (match_Literal_v n s0 b1 j2 s3 (Row.S (List.getD r12 0 []) 0) (Row.B (List.getD r12 0 []) 1) (Row.I (List.getD r12 0 []) 2) (Row.S (List.getD r12 0 []) 3) (Row.S (List.getD r12 0 []) 4) (Row.N (List.getD r12 0 []) 5) (Row.R (List.getD r12 0 []) 5) (Row.S (List.getD r12 0 []) 6) (Row.B (List.getD r12 0 []) 7) (Row.I (List.getD r12 0 []) 8) (Row.S (List.getD r12 0 []) 9) s13 s14 s15 b16 r17 false ([[DV.val (Value.string (ByteArray.mk #[65])), DV.val (Value.bool false), DV.val (Value.int IntKind.i64 0), DV.val (Value.string s13)]])) fun y26 =>
    bif !y26.fst.snd.fst then
      bif (↑(List.length y26.fst.fst.snd) : Int) == 0 then
        obind (law11_live_v n) fun y27 =>
        some (y27.fst, ())
      else some (false, ())
    else obind (match_Literal_v n s0 b1 j2 s3 (Row.S (List.getD r12 0 []) 0) (Row.B (List.getD r12 0 []) 1) (Row.I (List.getD r12 0 []) 2) (Row.S (List.getD r12 0 []) 3) (Row.S (List.getD r12 0 []) 4) (Row.N (List.getD r12 0 []) 5) (Row.R (List.getD r12 0 []) 5) (Row.S (List.getD r12 0 []) 6) (Row.B (List.getD r12 0 []) 7) (Row.I (List.getD r12 0 []) 8) (Row.S (List.getD r12 0 []) 9) s13 s14 s15 b16 r17 y26.fst.fst.fst y26.fst.fst.snd) fun y28 =>
    obind (match_Literal_v n s0 b1 j2 s3 (Row.S (List.getD r12 0 []) 0) (Row.B (List.getD r12 0 []) 1) (Row.I (List.getD r12 0 []) 2) (Row.S (List.getD r12 0 []) 3) (Row.S (List.getD r12 0 []) 4) (Row.N (List.getD r12 0 []) 5) (Row.R (List.getD r12 0 []) 5) (Row.S (List.getD r12 0 []) 6) (Row.B (List.getD r12 0 []) 7) (Row.I (List.getD r12 0 []) 8) (Row.S (List.getD r12 0 []) 9) s18 s19 s20 b21 r22 y26.fst.fst.fst y26.fst.fst.snd) fun y29 =>
    bif decide ((↑(List.length y26.fst.fst.snd) : Int) ≥ 1) then
      if 0 < (↑(List.length y26.fst.fst.snd) : Int) then
        bif Row.S (List.getD y26.fst.fst.snd 0 []) 0 == Row.S [DV.val (Value.string (ByteArray.mk #[65])), DV.val (Value.bool false), DV.val (Value.int IntKind.i64 0), DV.val (Value.string s13)] 0 && (Row.B (List.getD y26.fst.fst.snd 0 []) 1 == Row.B [DV.val (Value.string (ByteArray.mk #[65])), DV.val (Value.bool false), DV.val (Value.int IntKind.i64 0), DV.val (Value.string s13)] 1 && (Row.I (List.getD y26.fst.fst.snd 0 []) 2 == Row.I [DV.val (Value.string (ByteArray.mk #[65])), DV.val (Value.bool false), DV.val (Value.int IntKind.i64 0), DV.val (Value.string s13)] 2 && (Row.S (List.getD y26.fst.fst.snd 0 []) 3 == Row.S [DV.val (Value.string (ByteArray.mk #[65])), DV.val (Value.bool false), DV.val (Value.int IntKind.i64 0), DV.val (Value.string s13)] 3 && true))) then
          bif y28.fst.snd.fst then
            obind (ref11_Like_v n y26.fst.fst.fst y26.fst.fst.snd y28.fst.fst.fst y28.fst.fst.snd) fun y30 =>
            bif y30.fst then
              obind (ref04_Order_v n s13 s14 s15 b16 r17 s18 s19 s20 b21 r22) fun y31 =>
              bif y29.fst.snd.fst == (y31.fst == 0) then
                obind (law11_live_v n) fun y32 =>
                some (y32.fst, ())
              else some (false, ())
            else some (false, ())
          else some (false, ())
        else some (false, ())
      else none
    else some (false, ())
  else none := by kernel_rfl
theorem law11_MatchGrows_c (n : Nat) (s0 : ByteArray) (b1 : Bool) (j2 : Int) (s3 : ByteArray) (s4 : ByteArray) (b5 : Bool) (r6 : Rows) (s7 : ByteArray) (b8 : Bool) (j9 : Int) (s10 : ByteArray) (b11 : Bool) (r12 : Rows) (s13 : ByteArray) (s14 : ByteArray) (s15 : ByteArray) (b16 : Bool) (r17 : Rows) (s18 : ByteArray) (s19 : ByteArray) (s20 : ByteArray) (b21 : Bool) (r22 : Rows) (y : Bool × Unit) (h : law11_MatchGrows_v n s0 b1 j2 s3 s4 b5 r6 s7 b8 j9 s10 b11 r12 s13 s14 s15 b16 r17 s18 s19 s20 b21 r22 = some y) : Contract Try.prog 5 [AV.agg [AV.dv (DV.val (Value.string s0)), AV.dv (DV.val (Value.bool b1)), AV.dv (DV.val (Value.int IntKind.i64 j2)), AV.dv (DV.val (Value.string s3)), AV.dv (DV.val (Value.string s4)), AV.sl b5 [Kd.s, Kd.b, Kd.i IntKind.i64, Kd.s] r6 Right.no, AV.dv (DV.val (Value.string s7)), AV.dv (DV.val (Value.bool b8)), AV.dv (DV.val (Value.int IntKind.i64 j9)), AV.dv (DV.val (Value.string s10)), AV.sl b11 [Kd.s, Kd.b, Kd.i IntKind.i64, Kd.s, Kd.s, Kd.sl [Kd.s, Kd.b, Kd.i IntKind.i64, Kd.s], Kd.s, Kd.b, Kd.i IntKind.i64, Kd.s] r12 Right.no], AV.agg [AV.dv (DV.val (Value.string s13)), AV.dv (DV.val (Value.string s14)), AV.dv (DV.val (Value.string s15)), AV.sl b16 [Kd.b, Kd.i IntKind.i64, Kd.s] r17 Right.no], AV.agg [AV.dv (DV.val (Value.string s18)), AV.dv (DV.val (Value.string s19)), AV.dv (DV.val (Value.string s20)), AV.sl b21 [Kd.b, Kd.i IntKind.i64, Kd.s] r22 Right.no]] [] (OSh.enc (OSh.plain (.b) []) y) :=
  auto_okM tm_std (with_ok mixed (by kernel_rfl) (law11_MatchGrows_σok n) n 0 []) (with_pick mixed (by kernel_rfl) (law11_MatchGrows_σok n) n 0 []) mixed Try.func5 (by decide) (o := (OSh.plain (.b) [])) h
/-! match_name: function 39 -/
def match_name_lv : Live := []
noncomputable def match_name_σ (n : Nat) : Spec := (inst 10 [.agg [.s, .b, .i IntKind.i64, .s], .sl [Kd.s, Kd.b, Kd.i IntKind.i64, Kd.s]] [] (OSh.plain (.tup [.agg [.b, .i IntKind.i64, .s], .b]) []) (fun x e => match_Value_v n x.1.1 x.1.2.1 x.1.2.2.1 x.1.2.2.2.1 x.2.1.1 x.2.1.2) (inst 35 [.s] [] (OSh.plain (.agg [.b, .i IntKind.i64, .s]) []) (fun x e => match_text_v n x.1) Spec.none))
theorem match_name_σok (n : Nat) : SpecOk Try.prog (match_name_σ n) := (inst_ok (fun x e y h => match_Value_c n x.1.1 x.1.2.1 x.1.2.2.1 x.1.2.2.2.1 x.2.1.1 x.2.1.2 y h) (inst_ok (fun x e y h => match_text_c n x.1 y h) (SpecOk.none _)))
noncomputable def match_name_Φ (n : Nat) : Orc := with_ Try.prog (match_name_σ n) [] n 0 []
noncomputable def match_name_v (n : Nat) (s0 : ByteArray) (b1 : Bool) (j2 : Int) (s3 : ByteArray) (b4 : Bool) (r5 : Rows) : Option ((ByteArray × Bool × Unit) × Unit) :=
  DM.denFn tm (match_name_Φ n) match_name_lv n Try.f39 false [AV.agg [AV.dv (DV.val (Value.string s0)), AV.dv (DV.val (Value.bool b1)), AV.dv (DV.val (Value.int IntKind.i64 j2)), AV.dv (DV.val (Value.string s3))], AV.sl b4 [Kd.s, Kd.b, Kd.i IntKind.i64, Kd.s] r5 Right.no] [] (OSh.chk (OSh.plain (.tup [.s, .b]) []))
theorem match_name_e (n : Nat) (s0 : ByteArray) (b1 : Bool) (j2 : Int) (s3 : ByteArray) (b4 : Bool) (r5 : Rows) : match_name_v n s0 b1 j2 s3 b4 r5 =
  obind (match_Value_v n s0 b1 j2 s3 b4 r5) fun y6 =>
  bif y6.fst.snd.fst then
    obind (match_text_v n y6.fst.fst.snd.snd.fst) fun y7 =>
    some ((y6.fst.fst.snd.snd.fst, (y6.fst.fst.fst == y7.fst.fst && (y6.fst.fst.snd.fst == y7.fst.snd.fst && (y6.fst.fst.snd.snd.fst == y7.fst.snd.snd.fst && true)), ())), ())
  else some ((y6.fst.fst.snd.snd.fst, (false, ())), ()) := by kernel_rfl
theorem match_name_c (n : Nat) (s0 : ByteArray) (b1 : Bool) (j2 : Int) (s3 : ByteArray) (b4 : Bool) (r5 : Rows) (y : (ByteArray × Bool × Unit) × Unit) (h : match_name_v n s0 b1 j2 s3 b4 r5 = some y) : Contract Try.prog 39 [AV.agg [AV.dv (DV.val (Value.string s0)), AV.dv (DV.val (Value.bool b1)), AV.dv (DV.val (Value.int IntKind.i64 j2)), AV.dv (DV.val (Value.string s3))], AV.sl b4 [Kd.s, Kd.b, Kd.i IntKind.i64, Kd.s] r5 Right.no] [] (OSh.enc (OSh.plain (.tup [.s, .b]) []) y) :=
  auto_okM tm_std (with_ok mixed (by kernel_rfl) (match_name_σok n) n 0 []) (with_pick mixed (by kernel_rfl) (match_name_σok n) n 0 []) mixed Try.func39 (by decide) (o := (OSh.plain (.tup [.s, .b]) [])) h
/-! match_values: function 40 -/
def match_values_lv : Live := [(3, [1, 6, 11, 12, 13], [1000, 1001, 1002, 1003])]
noncomputable def match_values_σ (n : Nat) : Spec := (inst 10 [.agg [.s, .b, .i IntKind.i64, .s], .sl [Kd.s, Kd.b, Kd.i IntKind.i64, Kd.s]] [] (OSh.plain (.tup [.agg [.b, .i IntKind.i64, .s], .b]) []) (fun x e => match_Value_v n x.1.1 x.1.2.1 x.1.2.2.1 x.1.2.2.2.1 x.2.1.1 x.2.1.2) Spec.none)
theorem match_values_σok (n : Nat) : SpecOk Try.prog (match_values_σ n) := (inst_ok (fun x e y h => match_Value_c n x.1.1 x.1.2.1 x.1.2.2.1 x.1.2.2.2.1 x.2.1.1 x.2.1.2 y h) (SpecOk.none _))
noncomputable def match_values_Φ (n : Nat) : Orc := with_ Try.prog (match_values_σ n) [] n 0 []
noncomputable def match_values_v (n : Nat) (b0 : Bool) (r1 : Rows) (b2 : Bool) (r3 : Rows) : Option (((Bool × Rows) × Bool × Unit) × Unit) :=
  DM.denFn tm (match_values_Φ n) match_values_lv n Try.f40 true [AV.sl b0 [Kd.s, Kd.b, Kd.i IntKind.i64, Kd.s] r1 Right.no, AV.sl b2 [Kd.s, Kd.b, Kd.i IntKind.i64, Kd.s] r3 Right.no] [] (OSh.chk (OSh.plain (.tup [.slt [Kd.b, Kd.i IntKind.i64, Kd.s] 0, .b]) []))
noncomputable def match_values_l3 (n : Nat) (b0 : Bool) (r1 : Rows) (b2 : Bool) (r3 : Rows) (i0 : Nat) (b5 : Bool) (r6 : List (List DV)) (j7 : Int) : Option (((Bool × Rows) × Bool × Unit) × Unit) :=
  DM.loopFn tm (match_values_Φ n) match_values_lv n Try.f40 true [] (OSh.chk (OSh.plain (.tup [.slt [Kd.b, Kd.i IntKind.i64, Kd.s] 0, .b]) [])) 3 [] i0 (St.mk [AV.junk, AV.sl b2 [Kd.s, Kd.b, Kd.i IntKind.i64, Kd.s] r3 Right.no, AV.junk, AV.junk, AV.junk, AV.junk, AV.sl b5 [Kd.b, Kd.i IntKind.i64, Kd.s] r6 (Right.tok 6), AV.junk, AV.junk, AV.junk, AV.junk, AV.sl b0 [Kd.s, Kd.b, Kd.i IntKind.i64, Kd.s] r1 Right.no, AV.dv (DV.val (Value.int IntKind.i64 (↑(List.length r1) : Int))), AV.dv (DV.val (Value.int IntKind.i64 j7)), AV.junk, AV.junk, AV.junk, AV.junk, AV.junk, AV.junk, AV.junk, AV.junk, AV.junk, AV.junk, AV.junk, AV.junk, AV.junk, AV.junk, AV.junk, AV.junk, AV.junk] [])
theorem match_values_s3 (n : Nat) (b0 : Bool) (r1 : Rows) (b2 : Bool) (r3 : Rows) (i0 : Nat) (b5 : Bool) (r6 : List (List DV)) (j7 : Int) : match_values_l3 n b0 r1 b2 r3 (i0 + 1) b5 r6 j7 =
  bif decide (j7 < (↑(List.length r1) : Int)) then
    if 0 ≤ j7 then
      if j7 < (↑(List.length r1) : Int) then
        obind (match_Value_v n (Row.S (List.getD r1 (Int.toNat j7) []) 0) (Row.B (List.getD r1 (Int.toNat j7) []) 1) (Row.I (List.getD r1 (Int.toNat j7) []) 2) (Row.S (List.getD r1 (Int.toNat j7) []) 3) b2 r3) fun y8 =>
        bif !y8.fst.snd.fst then
          some (((true, []), (false, ())), ())
        else if List.length r6 + List.length [[DV.val (Value.bool y8.fst.fst.fst), DV.val (Value.int IntKind.i64 y8.fst.fst.snd.fst), DV.val (Value.string y8.fst.fst.snd.snd.fst)]] < 2147483648 then
          match_values_l3 n b0 r1 b2 r3 i0 (b5 && List.isEmpty [[DV.val (Value.bool y8.fst.fst.fst), DV.val (Value.int IntKind.i64 y8.fst.fst.snd.fst), DV.val (Value.string y8.fst.fst.snd.snd.fst)]]) (appX r6 [[DV.val (Value.bool y8.fst.fst.fst), DV.val (Value.int IntKind.i64 y8.fst.fst.snd.fst), DV.val (Value.string y8.fst.fst.snd.snd.fst)]]) (IntKind.wrap IntKind.i64 (j7 + 1))
        else none
      else none
    else none
  else some (((b5, r6), (true, ())), ()) := by kernel_rfl
theorem match_values_e (n : Nat) (b0 : Bool) (r1 : Rows) (b2 : Bool) (r3 : Rows) : match_values_v n b0 r1 b2 r3 =
  match_values_l3 n b0 r1 b2 r3 n true [] 0 := by kernel_rfl
theorem match_values_c (n : Nat) (b0 : Bool) (r1 : Rows) (b2 : Bool) (r3 : Rows) (y : ((Bool × Rows) × Bool × Unit) × Unit) (h : match_values_v n b0 r1 b2 r3 = some y) : Contract Try.prog 40 [AV.sl b0 [Kd.s, Kd.b, Kd.i IntKind.i64, Kd.s] r1 Right.no, AV.sl b2 [Kd.s, Kd.b, Kd.i IntKind.i64, Kd.s] r3 Right.no] [] (OSh.enc (OSh.plain (.tup [.slt [Kd.b, Kd.i IntKind.i64, Kd.s] 0, .b]) []) y) :=
  auto_okM tm_std (with_ok mixed (by kernel_rfl) (match_values_σok n) n 0 []) (with_pick mixed (by kernel_rfl) (match_values_σok n) n 0 []) mixed Try.func40 (by decide) (o := (OSh.plain (.tup [.slt [Kd.b, Kd.i IntKind.i64, Kd.s] 0, .b]) [])) h
/-! match_Head: function 19 -/
def match_Head_lv : Live := []
noncomputable def match_Head_σ (n : Nat) : Spec := (inst 39 [.agg [.s, .b, .i IntKind.i64, .s], .sl [Kd.s, Kd.b, Kd.i IntKind.i64, Kd.s]] [] (OSh.plain (.tup [.s, .b]) []) (fun x e => match_name_v n x.1.1 x.1.2.1 x.1.2.2.1 x.1.2.2.2.1 x.2.1.1 x.2.1.2) (inst 34 [.agg [.s, .b, .i IntKind.i64, .s], .agg [.s, .b, .i IntKind.i64, .s]] [] (OSh.plain (.agg [.s, .b, .i IntKind.i64, .s]) []) (fun x e => match_or_v n x.1.1 x.1.2.1 x.1.2.2.1 x.1.2.2.2.1 x.2.1.1 x.2.1.2.1 x.2.1.2.2.1 x.2.1.2.2.2.1) (inst 40 [.sl [Kd.s, Kd.b, Kd.i IntKind.i64, Kd.s], .sl [Kd.s, Kd.b, Kd.i IntKind.i64, Kd.s]] [] (OSh.plain (.tup [.slt [Kd.b, Kd.i IntKind.i64, Kd.s] 0, .b]) []) (fun x e => match_values_v n x.1.1 x.1.2 x.2.1.1 x.2.1.2) Spec.none)))
theorem match_Head_σok (n : Nat) : SpecOk Try.prog (match_Head_σ n) := (inst_ok (fun x e y h => match_name_c n x.1.1 x.1.2.1 x.1.2.2.1 x.1.2.2.2.1 x.2.1.1 x.2.1.2 y h) (inst_ok (fun x e y h => match_or_c n x.1.1 x.1.2.1 x.1.2.2.1 x.1.2.2.2.1 x.2.1.1 x.2.1.2.1 x.2.1.2.2.1 x.2.1.2.2.2.1 y h) (inst_ok (fun x e y h => match_values_c n x.1.1 x.1.2 x.2.1.1 x.2.1.2 y h) (SpecOk.none _))))
noncomputable def match_Head_Φ (n : Nat) : Orc := with_ Try.prog (match_Head_σ n) [] n 0 []
noncomputable def match_Head_v (n : Nat) (s0 : ByteArray) (b1 : Bool) (j2 : Int) (s3 : ByteArray) (s4 : ByteArray) (b5 : Bool) (r6 : Rows) (s7 : ByteArray) (b8 : Bool) (j9 : Int) (s10 : ByteArray) (b11 : Bool) (r12 : Rows) (b13 : Bool) (r14 : Rows) : Option (((ByteArray × ByteArray × ByteArray × (Bool × Rows) × Unit) × Bool × Unit) × Unit) :=
  DM.denFn tm (match_Head_Φ n) match_Head_lv n Try.f19 false [AV.agg [AV.dv (DV.val (Value.string s0)), AV.dv (DV.val (Value.bool b1)), AV.dv (DV.val (Value.int IntKind.i64 j2)), AV.dv (DV.val (Value.string s3)), AV.dv (DV.val (Value.string s4)), AV.sl b5 [Kd.s, Kd.b, Kd.i IntKind.i64, Kd.s] r6 Right.no, AV.dv (DV.val (Value.string s7)), AV.dv (DV.val (Value.bool b8)), AV.dv (DV.val (Value.int IntKind.i64 j9)), AV.dv (DV.val (Value.string s10)), AV.sl b11 [Kd.s, Kd.b, Kd.i IntKind.i64, Kd.s, Kd.s, Kd.sl [Kd.s, Kd.b, Kd.i IntKind.i64, Kd.s], Kd.s, Kd.b, Kd.i IntKind.i64, Kd.s] r12 Right.no], AV.sl b13 [Kd.s, Kd.b, Kd.i IntKind.i64, Kd.s] r14 Right.no] [] (OSh.chk (OSh.plain (.tup [.agg [.s, .s, .s, .sl [Kd.b, Kd.i IntKind.i64, Kd.s]], .b]) []))
theorem match_Head_e (n : Nat) (s0 : ByteArray) (b1 : Bool) (j2 : Int) (s3 : ByteArray) (s4 : ByteArray) (b5 : Bool) (r6 : Rows) (s7 : ByteArray) (b8 : Bool) (j9 : Int) (s10 : ByteArray) (b11 : Bool) (r12 : Rows) (b13 : Bool) (r14 : Rows) : match_Head_v n s0 b1 j2 s3 s4 b5 r6 s7 b8 j9 s10 b11 r12 b13 r14 =
  obind (match_name_v n s0 b1 j2 s3 b13 r14) fun y15 =>
  obind (match_or_v n s7 b8 j9 s10 s0 b1 j2 s3) fun y16 =>
  obind (match_name_v n y16.fst.fst y16.fst.snd.fst y16.fst.snd.snd.fst y16.fst.snd.snd.snd.fst b13 r14) fun y17 =>
  obind (match_values_v n b5 r6 b13 r14) fun y18 =>
  bif !y15.fst.snd.fst then
    some (((ByteArray.mk #[], (ByteArray.mk #[], (ByteArray.mk #[], ((true, []), ())))), (false, ())), ())
  else bif !y17.fst.snd.fst then
    some (((ByteArray.mk #[], (ByteArray.mk #[], (ByteArray.mk #[], ((true, []), ())))), (false, ())), ())
  else bif !y18.fst.snd.fst then
    some (((ByteArray.mk #[], (ByteArray.mk #[], (ByteArray.mk #[], ((true, []), ())))), (false, ())), ())
  else some (((y17.fst.fst, (y15.fst.fst, (s4, ((y18.fst.fst.fst, y18.fst.fst.snd), ())))), (true, ())), ()) := by kernel_rfl
theorem match_Head_c (n : Nat) (s0 : ByteArray) (b1 : Bool) (j2 : Int) (s3 : ByteArray) (s4 : ByteArray) (b5 : Bool) (r6 : Rows) (s7 : ByteArray) (b8 : Bool) (j9 : Int) (s10 : ByteArray) (b11 : Bool) (r12 : Rows) (b13 : Bool) (r14 : Rows) (y : ((ByteArray × ByteArray × ByteArray × (Bool × Rows) × Unit) × Bool × Unit) × Unit) (h : match_Head_v n s0 b1 j2 s3 s4 b5 r6 s7 b8 j9 s10 b11 r12 b13 r14 = some y) : Contract Try.prog 19 [AV.agg [AV.dv (DV.val (Value.string s0)), AV.dv (DV.val (Value.bool b1)), AV.dv (DV.val (Value.int IntKind.i64 j2)), AV.dv (DV.val (Value.string s3)), AV.dv (DV.val (Value.string s4)), AV.sl b5 [Kd.s, Kd.b, Kd.i IntKind.i64, Kd.s] r6 Right.no, AV.dv (DV.val (Value.string s7)), AV.dv (DV.val (Value.bool b8)), AV.dv (DV.val (Value.int IntKind.i64 j9)), AV.dv (DV.val (Value.string s10)), AV.sl b11 [Kd.s, Kd.b, Kd.i IntKind.i64, Kd.s, Kd.s, Kd.sl [Kd.s, Kd.b, Kd.i IntKind.i64, Kd.s], Kd.s, Kd.b, Kd.i IntKind.i64, Kd.s] r12 Right.no], AV.sl b13 [Kd.s, Kd.b, Kd.i IntKind.i64, Kd.s] r14 Right.no] [] (OSh.enc (OSh.plain (.tup [.agg [.s, .s, .s, .sl [Kd.b, Kd.i IntKind.i64, Kd.s]], .b]) []) y) :=
  auto_okM tm_std (with_ok mixed (by kernel_rfl) (match_Head_σok n) n 0 []) (with_pick mixed (by kernel_rfl) (match_Head_σok n) n 0 []) mixed Try.func19 (by decide) (o := (OSh.plain (.tup [.agg [.s, .s, .s, .sl [Kd.b, Kd.i IntKind.i64, Kd.s]], .b]) [])) h
/-! ref11_name: function 41 -/
def ref11_name_lv : Live := []
noncomputable def ref11_name_σ (n : Nat) : Spec := (inst 11 [.agg [.s, .b, .i IntKind.i64, .s], .sl [Kd.s, Kd.b, Kd.i IntKind.i64, Kd.s]] [] (OSh.plain (.tup [.agg [.b, .i IntKind.i64, .s], .b]) []) (fun x e => ref11_Value_v n x.1.1 x.1.2.1 x.1.2.2.1 x.1.2.2.2.1 x.2.1.1 x.2.1.2) (inst 36 [.s] [] (OSh.plain (.agg [.b, .i IntKind.i64, .s]) []) (fun x e => ref11_Name_v n x.1) Spec.none))
theorem ref11_name_σok (n : Nat) : SpecOk Try.prog (ref11_name_σ n) := (inst_ok (fun x e y h => ref11_Value_c n x.1.1 x.1.2.1 x.1.2.2.1 x.1.2.2.2.1 x.2.1.1 x.2.1.2 y h) (inst_ok (fun x e y h => ref11_Name_c n x.1 y h) (SpecOk.none _)))
noncomputable def ref11_name_Φ (n : Nat) : Orc := with_ Try.prog (ref11_name_σ n) [] n 0 []
noncomputable def ref11_name_v (n : Nat) (s0 : ByteArray) (b1 : Bool) (j2 : Int) (s3 : ByteArray) (b4 : Bool) (r5 : Rows) : Option ((ByteArray × Bool × Unit) × Unit) :=
  DM.denFn tm (ref11_name_Φ n) ref11_name_lv n Try.f41 false [AV.agg [AV.dv (DV.val (Value.string s0)), AV.dv (DV.val (Value.bool b1)), AV.dv (DV.val (Value.int IntKind.i64 j2)), AV.dv (DV.val (Value.string s3))], AV.sl b4 [Kd.s, Kd.b, Kd.i IntKind.i64, Kd.s] r5 Right.no] [] (OSh.chk (OSh.plain (.tup [.s, .b]) []))
theorem ref11_name_e (n : Nat) (s0 : ByteArray) (b1 : Bool) (j2 : Int) (s3 : ByteArray) (b4 : Bool) (r5 : Rows) : ref11_name_v n s0 b1 j2 s3 b4 r5 =
  obind (ref11_Value_v n s0 b1 j2 s3 b4 r5) fun y6 =>
  bif !y6.fst.snd.fst then
    some ((ByteArray.mk #[], (false, ())), ())
  else obind (ref11_Name_v n y6.fst.fst.snd.snd.fst) fun y7 =>
  bif !(y6.fst.fst.fst == y7.fst.fst && (y6.fst.fst.snd.fst == y7.fst.snd.fst && (y6.fst.fst.snd.snd.fst == y7.fst.snd.snd.fst && true))) then
    some ((ByteArray.mk #[], (false, ())), ())
  else some ((y6.fst.fst.snd.snd.fst, (true, ())), ()) := by kernel_rfl
theorem ref11_name_c (n : Nat) (s0 : ByteArray) (b1 : Bool) (j2 : Int) (s3 : ByteArray) (b4 : Bool) (r5 : Rows) (y : (ByteArray × Bool × Unit) × Unit) (h : ref11_name_v n s0 b1 j2 s3 b4 r5 = some y) : Contract Try.prog 41 [AV.agg [AV.dv (DV.val (Value.string s0)), AV.dv (DV.val (Value.bool b1)), AV.dv (DV.val (Value.int IntKind.i64 j2)), AV.dv (DV.val (Value.string s3))], AV.sl b4 [Kd.s, Kd.b, Kd.i IntKind.i64, Kd.s] r5 Right.no] [] (OSh.enc (OSh.plain (.tup [.s, .b]) []) y) :=
  auto_okM tm_std (with_ok mixed (by kernel_rfl) (ref11_name_σok n) n 0 []) (with_pick mixed (by kernel_rfl) (ref11_name_σok n) n 0 []) mixed Try.func41 (by decide) (o := (OSh.plain (.tup [.s, .b]) [])) h
/-! ref11_values: function 42 -/
def ref11_values_lv : Live := [(3, [0, 1, 6, 7], [1000, 1001, 1002, 1003])]
noncomputable def ref11_values_σ (n : Nat) : Spec := (inst 11 [.agg [.s, .b, .i IntKind.i64, .s], .sl [Kd.s, Kd.b, Kd.i IntKind.i64, Kd.s]] [] (OSh.plain (.tup [.agg [.b, .i IntKind.i64, .s], .b]) []) (fun x e => ref11_Value_v n x.1.1 x.1.2.1 x.1.2.2.1 x.1.2.2.2.1 x.2.1.1 x.2.1.2) Spec.none)
theorem ref11_values_σok (n : Nat) : SpecOk Try.prog (ref11_values_σ n) := (inst_ok (fun x e y h => ref11_Value_c n x.1.1 x.1.2.1 x.1.2.2.1 x.1.2.2.2.1 x.2.1.1 x.2.1.2 y h) (SpecOk.none _))
noncomputable def ref11_values_Φ (n : Nat) : Orc := with_ Try.prog (ref11_values_σ n) [] n 0 []
noncomputable def ref11_values_v (n : Nat) (b0 : Bool) (r1 : Rows) (b2 : Bool) (r3 : Rows) : Option (((Bool × Rows) × Bool × Unit) × Unit) :=
  DM.denFn tm (ref11_values_Φ n) ref11_values_lv n Try.f42 true [AV.sl b0 [Kd.s, Kd.b, Kd.i IntKind.i64, Kd.s] r1 Right.no, AV.sl b2 [Kd.s, Kd.b, Kd.i IntKind.i64, Kd.s] r3 Right.no] [] (OSh.chk (OSh.plain (.tup [.slt [Kd.b, Kd.i IntKind.i64, Kd.s] 0, .b]) []))
noncomputable def ref11_values_l3 (n : Nat) (b0 : Bool) (r1 : Rows) (b2 : Bool) (r3 : Rows) (i0 : Nat) (b5 : Bool) (r6 : List (List DV)) (j7 : Int) : Option (((Bool × Rows) × Bool × Unit) × Unit) :=
  DM.loopFn tm (ref11_values_Φ n) ref11_values_lv n Try.f42 true [] (OSh.chk (OSh.plain (.tup [.slt [Kd.b, Kd.i IntKind.i64, Kd.s] 0, .b]) [])) 3 [] i0 (St.mk [AV.sl b0 [Kd.s, Kd.b, Kd.i IntKind.i64, Kd.s] r1 Right.no, AV.sl b2 [Kd.s, Kd.b, Kd.i IntKind.i64, Kd.s] r3 Right.no, AV.junk, AV.junk, AV.junk, AV.junk, AV.sl b5 [Kd.b, Kd.i IntKind.i64, Kd.s] r6 (Right.tok 6), AV.dv (DV.val (Value.int IntKind.i64 j7)), AV.junk, AV.junk, AV.junk, AV.junk, AV.junk, AV.junk, AV.junk, AV.junk, AV.junk, AV.junk, AV.junk, AV.junk, AV.junk, AV.junk, AV.junk, AV.junk, AV.junk, AV.junk, AV.junk, AV.junk, AV.junk, AV.junk, AV.junk, AV.junk] [])
theorem ref11_values_s3 (n : Nat) (b0 : Bool) (r1 : Rows) (b2 : Bool) (r3 : Rows) (i0 : Nat) (b5 : Bool) (r6 : List (List DV)) (j7 : Int) : ref11_values_l3 n b0 r1 b2 r3 (i0 + 1) b5 r6 j7 =
  bif decide (j7 < (↑(List.length r1) : Int)) then
    if 0 ≤ j7 then
      if j7 < (↑(List.length r1) : Int) then
        obind (ref11_Value_v n (Row.S (List.getD r1 (Int.toNat j7) []) 0) (Row.B (List.getD r1 (Int.toNat j7) []) 1) (Row.I (List.getD r1 (Int.toNat j7) []) 2) (Row.S (List.getD r1 (Int.toNat j7) []) 3) b2 r3) fun y8 =>
        bif !y8.fst.snd.fst then
          some (((true, []), (false, ())), ())
        else if List.length r6 + List.length [[DV.val (Value.bool y8.fst.fst.fst), DV.val (Value.int IntKind.i64 y8.fst.fst.snd.fst), DV.val (Value.string y8.fst.fst.snd.snd.fst)]] < 2147483648 then
          ref11_values_l3 n b0 r1 b2 r3 i0 (b5 && List.isEmpty [[DV.val (Value.bool y8.fst.fst.fst), DV.val (Value.int IntKind.i64 y8.fst.fst.snd.fst), DV.val (Value.string y8.fst.fst.snd.snd.fst)]]) (appX r6 [[DV.val (Value.bool y8.fst.fst.fst), DV.val (Value.int IntKind.i64 y8.fst.fst.snd.fst), DV.val (Value.string y8.fst.fst.snd.snd.fst)]]) (IntKind.wrap IntKind.i64 (j7 + 1))
        else none
      else none
    else none
  else some (((b5, r6), (true, ())), ()) := by kernel_rfl
theorem ref11_values_e (n : Nat) (b0 : Bool) (r1 : Rows) (b2 : Bool) (r3 : Rows) : ref11_values_v n b0 r1 b2 r3 =
  ref11_values_l3 n b0 r1 b2 r3 n true [] 0 := by kernel_rfl
theorem ref11_values_c (n : Nat) (b0 : Bool) (r1 : Rows) (b2 : Bool) (r3 : Rows) (y : ((Bool × Rows) × Bool × Unit) × Unit) (h : ref11_values_v n b0 r1 b2 r3 = some y) : Contract Try.prog 42 [AV.sl b0 [Kd.s, Kd.b, Kd.i IntKind.i64, Kd.s] r1 Right.no, AV.sl b2 [Kd.s, Kd.b, Kd.i IntKind.i64, Kd.s] r3 Right.no] [] (OSh.enc (OSh.plain (.tup [.slt [Kd.b, Kd.i IntKind.i64, Kd.s] 0, .b]) []) y) :=
  auto_okM tm_std (with_ok mixed (by kernel_rfl) (ref11_values_σok n) n 0 []) (with_pick mixed (by kernel_rfl) (ref11_values_σok n) n 0 []) mixed Try.func42 (by decide) (o := (OSh.plain (.tup [.slt [Kd.b, Kd.i IntKind.i64, Kd.s] 0, .b]) [])) h
/-! ref11_Head: function 20 -/
def ref11_Head_lv : Live := []
noncomputable def ref11_Head_σ (n : Nat) : Spec := (inst 30 [.agg [.s, .b, .i IntKind.i64, .s]] [] (OSh.plain (.b) []) (fun x e => ref11_none_v n x.1.1 x.1.2.1 x.1.2.2.1 x.1.2.2.2.1) (inst 41 [.agg [.s, .b, .i IntKind.i64, .s], .sl [Kd.s, Kd.b, Kd.i IntKind.i64, Kd.s]] [] (OSh.plain (.tup [.s, .b]) []) (fun x e => ref11_name_v n x.1.1 x.1.2.1 x.1.2.2.1 x.1.2.2.2.1 x.2.1.1 x.2.1.2) (inst 42 [.sl [Kd.s, Kd.b, Kd.i IntKind.i64, Kd.s], .sl [Kd.s, Kd.b, Kd.i IntKind.i64, Kd.s]] [] (OSh.plain (.tup [.slt [Kd.b, Kd.i IntKind.i64, Kd.s] 0, .b]) []) (fun x e => ref11_values_v n x.1.1 x.1.2 x.2.1.1 x.2.1.2) Spec.none)))
theorem ref11_Head_σok (n : Nat) : SpecOk Try.prog (ref11_Head_σ n) := (inst_ok (fun x e y h => ref11_none_c n x.1.1 x.1.2.1 x.1.2.2.1 x.1.2.2.2.1 y h) (inst_ok (fun x e y h => ref11_name_c n x.1.1 x.1.2.1 x.1.2.2.1 x.1.2.2.2.1 x.2.1.1 x.2.1.2 y h) (inst_ok (fun x e y h => ref11_values_c n x.1.1 x.1.2 x.2.1.1 x.2.1.2 y h) (SpecOk.none _))))
noncomputable def ref11_Head_Φ (n : Nat) : Orc := with_ Try.prog (ref11_Head_σ n) [] n 0 []
noncomputable def ref11_Head_v (n : Nat) (s0 : ByteArray) (b1 : Bool) (j2 : Int) (s3 : ByteArray) (s4 : ByteArray) (b5 : Bool) (r6 : Rows) (s7 : ByteArray) (b8 : Bool) (j9 : Int) (s10 : ByteArray) (b11 : Bool) (r12 : Rows) (b13 : Bool) (r14 : Rows) : Option (((ByteArray × ByteArray × ByteArray × (Bool × Rows) × Unit) × Bool × Unit) × Unit) :=
  DM.denFn tm (ref11_Head_Φ n) ref11_Head_lv n Try.f20 false [AV.agg [AV.dv (DV.val (Value.string s0)), AV.dv (DV.val (Value.bool b1)), AV.dv (DV.val (Value.int IntKind.i64 j2)), AV.dv (DV.val (Value.string s3)), AV.dv (DV.val (Value.string s4)), AV.sl b5 [Kd.s, Kd.b, Kd.i IntKind.i64, Kd.s] r6 Right.no, AV.dv (DV.val (Value.string s7)), AV.dv (DV.val (Value.bool b8)), AV.dv (DV.val (Value.int IntKind.i64 j9)), AV.dv (DV.val (Value.string s10)), AV.sl b11 [Kd.s, Kd.b, Kd.i IntKind.i64, Kd.s, Kd.s, Kd.sl [Kd.s, Kd.b, Kd.i IntKind.i64, Kd.s], Kd.s, Kd.b, Kd.i IntKind.i64, Kd.s] r12 Right.no], AV.sl b13 [Kd.s, Kd.b, Kd.i IntKind.i64, Kd.s] r14 Right.no] [] (OSh.chk (OSh.plain (.tup [.agg [.s, .s, .s, .sl [Kd.b, Kd.i IntKind.i64, Kd.s]], .b]) []))
theorem ref11_Head_e (n : Nat) (s0 : ByteArray) (b1 : Bool) (j2 : Int) (s3 : ByteArray) (s4 : ByteArray) (b5 : Bool) (r6 : Rows) (s7 : ByteArray) (b8 : Bool) (j9 : Int) (s10 : ByteArray) (b11 : Bool) (r12 : Rows) (b13 : Bool) (r14 : Rows) : ref11_Head_v n s0 b1 j2 s3 s4 b5 r6 s7 b8 j9 s10 b11 r12 b13 r14 =
  obind (ref11_none_v n s7 b8 j9 s10) fun y15 =>
  bif y15.fst then
    obind (ref11_name_v n s0 b1 j2 s3 b13 r14) fun y16 =>
    obind (ref11_name_v n s0 b1 j2 s3 b13 r14) fun y17 =>
    obind (ref11_values_v n b5 r6 b13 r14) fun y18 =>
    bif !y16.fst.snd.fst then
      some (((ByteArray.mk #[], (ByteArray.mk #[], (ByteArray.mk #[], ((true, []), ())))), (false, ())), ())
    else bif !y17.fst.snd.fst then
      some (((ByteArray.mk #[], (ByteArray.mk #[], (ByteArray.mk #[], ((true, []), ())))), (false, ())), ())
    else bif !y18.fst.snd.fst then
      some (((ByteArray.mk #[], (ByteArray.mk #[], (ByteArray.mk #[], ((true, []), ())))), (false, ())), ())
    else some (((y17.fst.fst, (y16.fst.fst, (s4, ((y18.fst.fst.fst, y18.fst.fst.snd), ())))), (true, ())), ())
  else obind (ref11_name_v n s0 b1 j2 s3 b13 r14) fun y19 =>
  obind (ref11_name_v n s7 b8 j9 s10 b13 r14) fun y20 =>
  obind (ref11_values_v n b5 r6 b13 r14) fun y21 =>
  bif !y19.fst.snd.fst then
    some (((ByteArray.mk #[], (ByteArray.mk #[], (ByteArray.mk #[], ((true, []), ())))), (false, ())), ())
  else bif !y20.fst.snd.fst then
    some (((ByteArray.mk #[], (ByteArray.mk #[], (ByteArray.mk #[], ((true, []), ())))), (false, ())), ())
  else bif !y21.fst.snd.fst then
    some (((ByteArray.mk #[], (ByteArray.mk #[], (ByteArray.mk #[], ((true, []), ())))), (false, ())), ())
  else some (((y20.fst.fst, (y19.fst.fst, (s4, ((y21.fst.fst.fst, y21.fst.fst.snd), ())))), (true, ())), ()) := by kernel_rfl
theorem ref11_Head_c (n : Nat) (s0 : ByteArray) (b1 : Bool) (j2 : Int) (s3 : ByteArray) (s4 : ByteArray) (b5 : Bool) (r6 : Rows) (s7 : ByteArray) (b8 : Bool) (j9 : Int) (s10 : ByteArray) (b11 : Bool) (r12 : Rows) (b13 : Bool) (r14 : Rows) (y : ((ByteArray × ByteArray × ByteArray × (Bool × Rows) × Unit) × Bool × Unit) × Unit) (h : ref11_Head_v n s0 b1 j2 s3 s4 b5 r6 s7 b8 j9 s10 b11 r12 b13 r14 = some y) : Contract Try.prog 20 [AV.agg [AV.dv (DV.val (Value.string s0)), AV.dv (DV.val (Value.bool b1)), AV.dv (DV.val (Value.int IntKind.i64 j2)), AV.dv (DV.val (Value.string s3)), AV.dv (DV.val (Value.string s4)), AV.sl b5 [Kd.s, Kd.b, Kd.i IntKind.i64, Kd.s] r6 Right.no, AV.dv (DV.val (Value.string s7)), AV.dv (DV.val (Value.bool b8)), AV.dv (DV.val (Value.int IntKind.i64 j9)), AV.dv (DV.val (Value.string s10)), AV.sl b11 [Kd.s, Kd.b, Kd.i IntKind.i64, Kd.s, Kd.s, Kd.sl [Kd.s, Kd.b, Kd.i IntKind.i64, Kd.s], Kd.s, Kd.b, Kd.i IntKind.i64, Kd.s] r12 Right.no], AV.sl b13 [Kd.s, Kd.b, Kd.i IntKind.i64, Kd.s] r14 Right.no] [] (OSh.enc (OSh.plain (.tup [.agg [.s, .s, .s, .sl [Kd.b, Kd.i IntKind.i64, Kd.s]], .b]) []) y) :=
  auto_okM tm_std (with_ok mixed (by kernel_rfl) (ref11_Head_σok n) n 0 []) (with_pick mixed (by kernel_rfl) (ref11_Head_σok n) n 0 []) mixed Try.func20 (by decide) (o := (OSh.plain (.tup [.agg [.s, .s, .s, .sl [Kd.b, Kd.i IntKind.i64, Kd.s]], .b]) [])) h
/-! match_Body: function 21 -/
def match_Body_lv : Live := [(3, [1, 2, 6, 17, 18, 19], [2, 1000, 1001, 1002, 1003])]
noncomputable def match_Body_σ (n : Nat) : Spec := (inst 34 [.agg [.s, .b, .i IntKind.i64, .s], .agg [.s, .b, .i IntKind.i64, .s]] [] (OSh.plain (.agg [.s, .b, .i IntKind.i64, .s]) []) (fun x e => match_or_v n x.1.1 x.1.2.1 x.1.2.2.1 x.1.2.2.2.1 x.2.1.1 x.2.1.2.1 x.2.1.2.2.1 x.2.1.2.2.2.1) (inst 39 [.agg [.s, .b, .i IntKind.i64, .s], .sl [Kd.s, Kd.b, Kd.i IntKind.i64, Kd.s]] [] (OSh.plain (.tup [.s, .b]) []) (fun x e => match_name_v n x.1.1 x.1.2.1 x.1.2.2.1 x.1.2.2.2.1 x.2.1.1 x.2.1.2) (inst 40 [.sl [Kd.s, Kd.b, Kd.i IntKind.i64, Kd.s], .sl [Kd.s, Kd.b, Kd.i IntKind.i64, Kd.s]] [] (OSh.plain (.tup [.slt [Kd.b, Kd.i IntKind.i64, Kd.s] 0, .b]) []) (fun x e => match_values_v n x.1.1 x.1.2 x.2.1.1 x.2.1.2) Spec.none)))
theorem match_Body_σok (n : Nat) : SpecOk Try.prog (match_Body_σ n) := (inst_ok (fun x e y h => match_or_c n x.1.1 x.1.2.1 x.1.2.2.1 x.1.2.2.2.1 x.2.1.1 x.2.1.2.1 x.2.1.2.2.1 x.2.1.2.2.2.1 y h) (inst_ok (fun x e y h => match_name_c n x.1.1 x.1.2.1 x.1.2.2.1 x.1.2.2.2.1 x.2.1.1 x.2.1.2 y h) (inst_ok (fun x e y h => match_values_c n x.1.1 x.1.2 x.2.1.1 x.2.1.2 y h) (SpecOk.none _))))
noncomputable def match_Body_Φ (n : Nat) : Orc := with_ Try.prog (match_Body_σ n) [] n 0 []
noncomputable def match_Body_v (n : Nat) (s0 : ByteArray) (b1 : Bool) (j2 : Int) (s3 : ByteArray) (s4 : ByteArray) (b5 : Bool) (r6 : Rows) (s7 : ByteArray) (b8 : Bool) (j9 : Int) (s10 : ByteArray) (b11 : Bool) (r12 : Rows) (b13 : Bool) (r14 : Rows) : Option (((Bool × Rows) × Bool × Unit) × Unit) :=
  DM.denFn tm (match_Body_Φ n) match_Body_lv n Try.f21 true [AV.agg [AV.dv (DV.val (Value.string s0)), AV.dv (DV.val (Value.bool b1)), AV.dv (DV.val (Value.int IntKind.i64 j2)), AV.dv (DV.val (Value.string s3)), AV.dv (DV.val (Value.string s4)), AV.sl b5 [Kd.s, Kd.b, Kd.i IntKind.i64, Kd.s] r6 Right.no, AV.dv (DV.val (Value.string s7)), AV.dv (DV.val (Value.bool b8)), AV.dv (DV.val (Value.int IntKind.i64 j9)), AV.dv (DV.val (Value.string s10)), AV.sl b11 [Kd.s, Kd.b, Kd.i IntKind.i64, Kd.s, Kd.s, Kd.sl [Kd.s, Kd.b, Kd.i IntKind.i64, Kd.s], Kd.s, Kd.b, Kd.i IntKind.i64, Kd.s] r12 Right.no], AV.sl b13 [Kd.s, Kd.b, Kd.i IntKind.i64, Kd.s] r14 Right.no] [] (OSh.chk (OSh.plain (.tup [.slt [Kd.s, Kd.s, Kd.s, Kd.sl [Kd.b, Kd.i IntKind.i64, Kd.s]] 0, .b]) []))
noncomputable def match_Body_l3 (n : Nat) (s0 : ByteArray) (b1 : Bool) (j2 : Int) (s3 : ByteArray) (s4 : ByteArray) (b5 : Bool) (r6 : Rows) (s7 : ByteArray) (b8 : Bool) (j9 : Int) (s10 : ByteArray) (b11 : Bool) (r12 : Rows) (b13 : Bool) (r14 : Rows) (i0 : Nat) (b20 : Bool) (r21 : List (List DV)) (j22 : Int) : Option (((Bool × Rows) × Bool × Unit) × Unit) :=
  DM.loopFn tm (match_Body_Φ n) match_Body_lv n Try.f21 true [] (OSh.chk (OSh.plain (.tup [.slt [Kd.s, Kd.s, Kd.s, Kd.sl [Kd.b, Kd.i IntKind.i64, Kd.s]] 0, .b]) [])) 3 [] i0 (St.mk [AV.junk, AV.sl b13 [Kd.s, Kd.b, Kd.i IntKind.i64, Kd.s] r14 Right.no, AV.pl 2 0, AV.junk, AV.junk, AV.junk, AV.sl b20 [Kd.s, Kd.s, Kd.s, Kd.sl [Kd.b, Kd.i IntKind.i64, Kd.s]] r21 (Right.tok 6), AV.junk, AV.junk, AV.junk, AV.junk, AV.junk, AV.junk, AV.junk, AV.junk, AV.junk, AV.junk, AV.sl b11 [Kd.s, Kd.b, Kd.i IntKind.i64, Kd.s, Kd.s, Kd.sl [Kd.s, Kd.b, Kd.i IntKind.i64, Kd.s], Kd.s, Kd.b, Kd.i IntKind.i64, Kd.s] r12 Right.no, AV.dv (DV.val (Value.int IntKind.i64 (↑(List.length r12) : Int))), AV.dv (DV.val (Value.int IntKind.i64 j22)), AV.junk, AV.junk, AV.junk, AV.junk, AV.junk, AV.junk, AV.junk, AV.junk, AV.junk, AV.junk, AV.junk, AV.junk, AV.junk, AV.junk, AV.junk, AV.junk, AV.junk, AV.junk, AV.junk, AV.junk, AV.junk, AV.junk, AV.junk, AV.junk, AV.junk, AV.junk, AV.junk, AV.junk, AV.junk, AV.junk, AV.junk, AV.junk, AV.junk, AV.junk, AV.junk, AV.junk, AV.junk, AV.junk, AV.junk, AV.junk, AV.junk, AV.junk, AV.junk, AV.junk, AV.junk, AV.junk, AV.junk, AV.junk, AV.junk, AV.junk, AV.junk] [(2, [AV.dv (DV.val (Value.string s0)), AV.dv (DV.val (Value.bool b1)), AV.dv (DV.val (Value.int IntKind.i64 j2)), AV.dv (DV.val (Value.string s3)), AV.dv (DV.val (Value.string s4)), AV.sl b5 [Kd.s, Kd.b, Kd.i IntKind.i64, Kd.s] r6 Right.no, AV.dv (DV.val (Value.string s7)), AV.dv (DV.val (Value.bool b8)), AV.dv (DV.val (Value.int IntKind.i64 j9)), AV.dv (DV.val (Value.string s10)), AV.sl b11 [Kd.s, Kd.b, Kd.i IntKind.i64, Kd.s, Kd.s, Kd.sl [Kd.s, Kd.b, Kd.i IntKind.i64, Kd.s], Kd.s, Kd.b, Kd.i IntKind.i64, Kd.s] r12 Right.no])])
theorem match_Body_s3 (n : Nat) (s0 : ByteArray) (b1 : Bool) (j2 : Int) (s3 : ByteArray) (s4 : ByteArray) (b5 : Bool) (r6 : Rows) (s7 : ByteArray) (b8 : Bool) (j9 : Int) (s10 : ByteArray) (b11 : Bool) (r12 : Rows) (b13 : Bool) (r14 : Rows) (i0 : Nat) (b20 : Bool) (r21 : List (List DV)) (j22 : Int) : match_Body_l3 n s0 b1 j2 s3 s4 b5 r6 s7 b8 j9 s10 b11 r12 b13 r14 (i0 + 1) b20 r21 j22 =
  bif decide (j22 < (↑(List.length r12) : Int)) then
    if 0 ≤ j22 then
      if j22 < (↑(List.length r12) : Int) then
        obind (match_or_v n (Row.S (List.getD r12 (Int.toNat j22) []) 6) (Row.B (List.getD r12 (Int.toNat j22) []) 7) (Row.I (List.getD r12 (Int.toNat j22) []) 8) (Row.S (List.getD r12 (Int.toNat j22) []) 9) s0 b1 j2 s3) fun y23 =>
        obind (match_name_v n y23.fst.fst y23.fst.snd.fst y23.fst.snd.snd.fst y23.fst.snd.snd.snd.fst b13 r14) fun y24 =>
        obind (match_or_v n (Row.S (List.getD r12 (Int.toNat j22) []) 0) (Row.B (List.getD r12 (Int.toNat j22) []) 1) (Row.I (List.getD r12 (Int.toNat j22) []) 2) (Row.S (List.getD r12 (Int.toNat j22) []) 3) y23.fst.fst y23.fst.snd.fst y23.fst.snd.snd.fst y23.fst.snd.snd.snd.fst) fun y25 =>
        obind (match_name_v n y25.fst.fst y25.fst.snd.fst y25.fst.snd.snd.fst y25.fst.snd.snd.snd.fst b13 r14) fun y26 =>
        obind (match_values_v n (Row.N (List.getD r12 (Int.toNat j22) []) 5) (Row.R (List.getD r12 (Int.toNat j22) []) 5) b13 r14) fun y27 =>
        bif !y24.fst.snd.fst then
          some (((true, []), (false, ())), ())
        else bif !y26.fst.snd.fst then
          some (((true, []), (false, ())), ())
        else bif !y27.fst.snd.fst then
          some (((true, []), (false, ())), ())
        else if List.length r21 + List.length [[DV.val (Value.string y24.fst.fst), DV.val (Value.string y26.fst.fst), DV.val (Value.string (Row.S (List.getD r12 (Int.toNat j22) []) 4)), DV.sl y27.fst.fst.fst [Kd.b, Kd.i IntKind.i64, Kd.s] y27.fst.fst.snd]] < 2147483648 then
          match_Body_l3 n s0 b1 j2 s3 s4 b5 r6 s7 b8 j9 s10 b11 r12 b13 r14 i0 (b20 && List.isEmpty [[DV.val (Value.string y24.fst.fst), DV.val (Value.string y26.fst.fst), DV.val (Value.string (Row.S (List.getD r12 (Int.toNat j22) []) 4)), DV.sl y27.fst.fst.fst [Kd.b, Kd.i IntKind.i64, Kd.s] y27.fst.fst.snd]]) (appX r21 [[DV.val (Value.string y24.fst.fst), DV.val (Value.string y26.fst.fst), DV.val (Value.string (Row.S (List.getD r12 (Int.toNat j22) []) 4)), DV.sl y27.fst.fst.fst [Kd.b, Kd.i IntKind.i64, Kd.s] y27.fst.fst.snd]]) (IntKind.wrap IntKind.i64 (j22 + 1))
        else none
      else none
    else none
  else some (((b20, r21), (true, ())), ()) := by kernel_rfl
theorem match_Body_e (n : Nat) (s0 : ByteArray) (b1 : Bool) (j2 : Int) (s3 : ByteArray) (s4 : ByteArray) (b5 : Bool) (r6 : Rows) (s7 : ByteArray) (b8 : Bool) (j9 : Int) (s10 : ByteArray) (b11 : Bool) (r12 : Rows) (b13 : Bool) (r14 : Rows) : match_Body_v n s0 b1 j2 s3 s4 b5 r6 s7 b8 j9 s10 b11 r12 b13 r14 =
  match_Body_l3 n s0 b1 j2 s3 s4 b5 r6 s7 b8 j9 s10 b11 r12 b13 r14 n true [] 0 := by kernel_rfl
theorem match_Body_c (n : Nat) (s0 : ByteArray) (b1 : Bool) (j2 : Int) (s3 : ByteArray) (s4 : ByteArray) (b5 : Bool) (r6 : Rows) (s7 : ByteArray) (b8 : Bool) (j9 : Int) (s10 : ByteArray) (b11 : Bool) (r12 : Rows) (b13 : Bool) (r14 : Rows) (y : ((Bool × Rows) × Bool × Unit) × Unit) (h : match_Body_v n s0 b1 j2 s3 s4 b5 r6 s7 b8 j9 s10 b11 r12 b13 r14 = some y) : Contract Try.prog 21 [AV.agg [AV.dv (DV.val (Value.string s0)), AV.dv (DV.val (Value.bool b1)), AV.dv (DV.val (Value.int IntKind.i64 j2)), AV.dv (DV.val (Value.string s3)), AV.dv (DV.val (Value.string s4)), AV.sl b5 [Kd.s, Kd.b, Kd.i IntKind.i64, Kd.s] r6 Right.no, AV.dv (DV.val (Value.string s7)), AV.dv (DV.val (Value.bool b8)), AV.dv (DV.val (Value.int IntKind.i64 j9)), AV.dv (DV.val (Value.string s10)), AV.sl b11 [Kd.s, Kd.b, Kd.i IntKind.i64, Kd.s, Kd.s, Kd.sl [Kd.s, Kd.b, Kd.i IntKind.i64, Kd.s], Kd.s, Kd.b, Kd.i IntKind.i64, Kd.s] r12 Right.no], AV.sl b13 [Kd.s, Kd.b, Kd.i IntKind.i64, Kd.s] r14 Right.no] [] (OSh.enc (OSh.plain (.tup [.slt [Kd.s, Kd.s, Kd.s, Kd.sl [Kd.b, Kd.i IntKind.i64, Kd.s]] 0, .b]) []) y) :=
  auto_okM tm_std (with_ok mixed (by kernel_rfl) (match_Body_σok n) n 0 []) (with_pick mixed (by kernel_rfl) (match_Body_σok n) n 0 []) mixed Try.func21 (by decide) (o := (OSh.plain (.tup [.slt [Kd.s, Kd.s, Kd.s, Kd.sl [Kd.b, Kd.i IntKind.i64, Kd.s]] 0, .b]) [])) h
/-! ref11_Body: function 22 -/
def ref11_Body_lv : Live := [(3, [1, 2, 6, 7], [2, 1000, 1001, 1002, 1003])]
noncomputable def ref11_Body_σ (n : Nat) : Spec := (inst 30 [.agg [.s, .b, .i IntKind.i64, .s]] [] (OSh.plain (.b) []) (fun x e => ref11_none_v n x.1.1 x.1.2.1 x.1.2.2.1 x.1.2.2.2.1) (inst 41 [.agg [.s, .b, .i IntKind.i64, .s], .sl [Kd.s, Kd.b, Kd.i IntKind.i64, Kd.s]] [] (OSh.plain (.tup [.s, .b]) []) (fun x e => ref11_name_v n x.1.1 x.1.2.1 x.1.2.2.1 x.1.2.2.2.1 x.2.1.1 x.2.1.2) (inst 42 [.sl [Kd.s, Kd.b, Kd.i IntKind.i64, Kd.s], .sl [Kd.s, Kd.b, Kd.i IntKind.i64, Kd.s]] [] (OSh.plain (.tup [.slt [Kd.b, Kd.i IntKind.i64, Kd.s] 0, .b]) []) (fun x e => ref11_values_v n x.1.1 x.1.2 x.2.1.1 x.2.1.2) Spec.none)))
theorem ref11_Body_σok (n : Nat) : SpecOk Try.prog (ref11_Body_σ n) := (inst_ok (fun x e y h => ref11_none_c n x.1.1 x.1.2.1 x.1.2.2.1 x.1.2.2.2.1 y h) (inst_ok (fun x e y h => ref11_name_c n x.1.1 x.1.2.1 x.1.2.2.1 x.1.2.2.2.1 x.2.1.1 x.2.1.2 y h) (inst_ok (fun x e y h => ref11_values_c n x.1.1 x.1.2 x.2.1.1 x.2.1.2 y h) (SpecOk.none _))))
noncomputable def ref11_Body_Φ (n : Nat) : Orc := with_ Try.prog (ref11_Body_σ n) [] n 0 []
noncomputable def ref11_Body_v (n : Nat) (s0 : ByteArray) (b1 : Bool) (j2 : Int) (s3 : ByteArray) (s4 : ByteArray) (b5 : Bool) (r6 : Rows) (s7 : ByteArray) (b8 : Bool) (j9 : Int) (s10 : ByteArray) (b11 : Bool) (r12 : Rows) (b13 : Bool) (r14 : Rows) : Option (((Bool × Rows) × Bool × Unit) × Unit) :=
  DM.denFn tm (ref11_Body_Φ n) ref11_Body_lv n Try.f22 true [AV.agg [AV.dv (DV.val (Value.string s0)), AV.dv (DV.val (Value.bool b1)), AV.dv (DV.val (Value.int IntKind.i64 j2)), AV.dv (DV.val (Value.string s3)), AV.dv (DV.val (Value.string s4)), AV.sl b5 [Kd.s, Kd.b, Kd.i IntKind.i64, Kd.s] r6 Right.no, AV.dv (DV.val (Value.string s7)), AV.dv (DV.val (Value.bool b8)), AV.dv (DV.val (Value.int IntKind.i64 j9)), AV.dv (DV.val (Value.string s10)), AV.sl b11 [Kd.s, Kd.b, Kd.i IntKind.i64, Kd.s, Kd.s, Kd.sl [Kd.s, Kd.b, Kd.i IntKind.i64, Kd.s], Kd.s, Kd.b, Kd.i IntKind.i64, Kd.s] r12 Right.no], AV.sl b13 [Kd.s, Kd.b, Kd.i IntKind.i64, Kd.s] r14 Right.no] [] (OSh.chk (OSh.plain (.tup [.slt [Kd.s, Kd.s, Kd.s, Kd.sl [Kd.b, Kd.i IntKind.i64, Kd.s]] 0, .b]) []))
noncomputable def ref11_Body_l3 (n : Nat) (s0 : ByteArray) (b1 : Bool) (j2 : Int) (s3 : ByteArray) (s4 : ByteArray) (b5 : Bool) (r6 : Rows) (s7 : ByteArray) (b8 : Bool) (j9 : Int) (s10 : ByteArray) (b11 : Bool) (r12 : Rows) (b13 : Bool) (r14 : Rows) (i0 : Nat) (b30 : Bool) (r31 : List (List DV)) (j32 : Int) : Option (((Bool × Rows) × Bool × Unit) × Unit) :=
  DM.loopFn tm (ref11_Body_Φ n) ref11_Body_lv n Try.f22 true [] (OSh.chk (OSh.plain (.tup [.slt [Kd.s, Kd.s, Kd.s, Kd.sl [Kd.b, Kd.i IntKind.i64, Kd.s]] 0, .b]) [])) 3 [] i0 (St.mk [AV.junk, AV.sl b13 [Kd.s, Kd.b, Kd.i IntKind.i64, Kd.s] r14 Right.no, AV.pl 2 0, AV.junk, AV.junk, AV.junk, AV.sl b30 [Kd.s, Kd.s, Kd.s, Kd.sl [Kd.b, Kd.i IntKind.i64, Kd.s]] r31 (Right.tok 6), AV.dv (DV.val (Value.int IntKind.i64 j32)), AV.junk, AV.junk, AV.junk, AV.junk, AV.junk, AV.junk, AV.junk, AV.junk, AV.junk, AV.junk, AV.junk, AV.junk, AV.junk, AV.junk, AV.junk, AV.junk, AV.junk, AV.junk, AV.junk, AV.junk, AV.junk, AV.junk, AV.junk, AV.junk, AV.junk, AV.junk, AV.junk, AV.junk, AV.junk, AV.junk, AV.junk, AV.junk, AV.junk, AV.junk, AV.junk, AV.junk, AV.junk, AV.junk, AV.junk, AV.junk, AV.junk, AV.junk, AV.junk, AV.junk, AV.junk, AV.junk, AV.junk, AV.junk, AV.junk, AV.junk, AV.junk, AV.junk, AV.junk, AV.junk, AV.junk, AV.junk, AV.junk, AV.junk, AV.junk, AV.junk, AV.junk, AV.junk, AV.junk, AV.junk, AV.junk, AV.junk, AV.junk, AV.junk, AV.junk, AV.junk, AV.junk] [(2, [AV.dv (DV.val (Value.string s0)), AV.dv (DV.val (Value.bool b1)), AV.dv (DV.val (Value.int IntKind.i64 j2)), AV.dv (DV.val (Value.string s3)), AV.dv (DV.val (Value.string s4)), AV.sl b5 [Kd.s, Kd.b, Kd.i IntKind.i64, Kd.s] r6 Right.no, AV.dv (DV.val (Value.string s7)), AV.dv (DV.val (Value.bool b8)), AV.dv (DV.val (Value.int IntKind.i64 j9)), AV.dv (DV.val (Value.string s10)), AV.sl b11 [Kd.s, Kd.b, Kd.i IntKind.i64, Kd.s, Kd.s, Kd.sl [Kd.s, Kd.b, Kd.i IntKind.i64, Kd.s], Kd.s, Kd.b, Kd.i IntKind.i64, Kd.s] r12 Right.no])])
theorem ref11_Body_s3 (n : Nat) (s0 : ByteArray) (b1 : Bool) (j2 : Int) (s3 : ByteArray) (s4 : ByteArray) (b5 : Bool) (r6 : Rows) (s7 : ByteArray) (b8 : Bool) (j9 : Int) (s10 : ByteArray) (b11 : Bool) (r12 : Rows) (b13 : Bool) (r14 : Rows) (i0 : Nat) (b30 : Bool) (r31 : List (List DV)) (j32 : Int) : ref11_Body_l3 n s0 b1 j2 s3 s4 b5 r6 s7 b8 j9 s10 b11 r12 b13 r14 (i0 + 1) b30 r31 j32 =
  bif decide (j32 < (↑(List.length r12) : Int)) then
    if 0 ≤ j32 then
      if j32 < (↑(List.length r12) : Int) then
        obind (ref11_none_v n (Row.S (List.getD r12 (Int.toNat j32) []) 6) (Row.B (List.getD r12 (Int.toNat j32) []) 7) (Row.I (List.getD r12 (Int.toNat j32) []) 8) (Row.S (List.getD r12 (Int.toNat j32) []) 9)) fun y33 =>
        bif y33.fst then
          obind (ref11_none_v n (Row.S (List.getD r12 (Int.toNat j32) []) 0) (Row.B (List.getD r12 (Int.toNat j32) []) 1) (Row.I (List.getD r12 (Int.toNat j32) []) 2) (Row.S (List.getD r12 (Int.toNat j32) []) 3)) fun y34 =>
          bif y34.fst then
            obind (ref11_name_v n s0 b1 j2 s3 b13 r14) fun y35 =>
            obind (ref11_name_v n s0 b1 j2 s3 b13 r14) fun y36 =>
            obind (ref11_values_v n (Row.N (List.getD r12 (Int.toNat j32) []) 5) (Row.R (List.getD r12 (Int.toNat j32) []) 5) b13 r14) fun y37 =>
            bif !y35.fst.snd.fst then
              some (((true, []), (false, ())), ())
            else bif !y36.fst.snd.fst then
              some (((true, []), (false, ())), ())
            else bif !y37.fst.snd.fst then
              some (((true, []), (false, ())), ())
            else if List.length r31 + List.length [[DV.val (Value.string y35.fst.fst), DV.val (Value.string y36.fst.fst), DV.val (Value.string (Row.S (List.getD r12 (Int.toNat j32) []) 4)), DV.sl y37.fst.fst.fst [Kd.b, Kd.i IntKind.i64, Kd.s] y37.fst.fst.snd]] < 2147483648 then
              ref11_Body_l3 n s0 b1 j2 s3 s4 b5 r6 s7 b8 j9 s10 b11 r12 b13 r14 i0 (b30 && List.isEmpty [[DV.val (Value.string y35.fst.fst), DV.val (Value.string y36.fst.fst), DV.val (Value.string (Row.S (List.getD r12 (Int.toNat j32) []) 4)), DV.sl y37.fst.fst.fst [Kd.b, Kd.i IntKind.i64, Kd.s] y37.fst.fst.snd]]) (appX r31 [[DV.val (Value.string y35.fst.fst), DV.val (Value.string y36.fst.fst), DV.val (Value.string (Row.S (List.getD r12 (Int.toNat j32) []) 4)), DV.sl y37.fst.fst.fst [Kd.b, Kd.i IntKind.i64, Kd.s] y37.fst.fst.snd]]) (IntKind.wrap IntKind.i64 (j32 + 1))
            else none
          else obind (ref11_name_v n s0 b1 j2 s3 b13 r14) fun y38 =>
          obind (ref11_name_v n (Row.S (List.getD r12 (Int.toNat j32) []) 0) (Row.B (List.getD r12 (Int.toNat j32) []) 1) (Row.I (List.getD r12 (Int.toNat j32) []) 2) (Row.S (List.getD r12 (Int.toNat j32) []) 3) b13 r14) fun y39 =>
          obind (ref11_values_v n (Row.N (List.getD r12 (Int.toNat j32) []) 5) (Row.R (List.getD r12 (Int.toNat j32) []) 5) b13 r14) fun y40 =>
          bif !y38.fst.snd.fst then
            some (((true, []), (false, ())), ())
          else bif !y39.fst.snd.fst then
            some (((true, []), (false, ())), ())
          else bif !y40.fst.snd.fst then
            some (((true, []), (false, ())), ())
          else if List.length r31 + List.length [[DV.val (Value.string y38.fst.fst), DV.val (Value.string y39.fst.fst), DV.val (Value.string (Row.S (List.getD r12 (Int.toNat j32) []) 4)), DV.sl y40.fst.fst.fst [Kd.b, Kd.i IntKind.i64, Kd.s] y40.fst.fst.snd]] < 2147483648 then
            ref11_Body_l3 n s0 b1 j2 s3 s4 b5 r6 s7 b8 j9 s10 b11 r12 b13 r14 i0 (b30 && List.isEmpty [[DV.val (Value.string y38.fst.fst), DV.val (Value.string y39.fst.fst), DV.val (Value.string (Row.S (List.getD r12 (Int.toNat j32) []) 4)), DV.sl y40.fst.fst.fst [Kd.b, Kd.i IntKind.i64, Kd.s] y40.fst.fst.snd]]) (appX r31 [[DV.val (Value.string y38.fst.fst), DV.val (Value.string y39.fst.fst), DV.val (Value.string (Row.S (List.getD r12 (Int.toNat j32) []) 4)), DV.sl y40.fst.fst.fst [Kd.b, Kd.i IntKind.i64, Kd.s] y40.fst.fst.snd]]) (IntKind.wrap IntKind.i64 (j32 + 1))
          else none
        else obind (ref11_none_v n (Row.S (List.getD r12 (Int.toNat j32) []) 0) (Row.B (List.getD r12 (Int.toNat j32) []) 1) (Row.I (List.getD r12 (Int.toNat j32) []) 2) (Row.S (List.getD r12 (Int.toNat j32) []) 3)) fun y41 =>
        bif y41.fst then
          obind (ref11_name_v n (Row.S (List.getD r12 (Int.toNat j32) []) 6) (Row.B (List.getD r12 (Int.toNat j32) []) 7) (Row.I (List.getD r12 (Int.toNat j32) []) 8) (Row.S (List.getD r12 (Int.toNat j32) []) 9) b13 r14) fun y42 =>
          obind (ref11_name_v n (Row.S (List.getD r12 (Int.toNat j32) []) 6) (Row.B (List.getD r12 (Int.toNat j32) []) 7) (Row.I (List.getD r12 (Int.toNat j32) []) 8) (Row.S (List.getD r12 (Int.toNat j32) []) 9) b13 r14) fun y43 =>
          obind (ref11_values_v n (Row.N (List.getD r12 (Int.toNat j32) []) 5) (Row.R (List.getD r12 (Int.toNat j32) []) 5) b13 r14) fun y44 =>
          bif !y42.fst.snd.fst then
            some (((true, []), (false, ())), ())
          else bif !y43.fst.snd.fst then
            some (((true, []), (false, ())), ())
          else bif !y44.fst.snd.fst then
            some (((true, []), (false, ())), ())
          else if List.length r31 + List.length [[DV.val (Value.string y42.fst.fst), DV.val (Value.string y43.fst.fst), DV.val (Value.string (Row.S (List.getD r12 (Int.toNat j32) []) 4)), DV.sl y44.fst.fst.fst [Kd.b, Kd.i IntKind.i64, Kd.s] y44.fst.fst.snd]] < 2147483648 then
            ref11_Body_l3 n s0 b1 j2 s3 s4 b5 r6 s7 b8 j9 s10 b11 r12 b13 r14 i0 (b30 && List.isEmpty [[DV.val (Value.string y42.fst.fst), DV.val (Value.string y43.fst.fst), DV.val (Value.string (Row.S (List.getD r12 (Int.toNat j32) []) 4)), DV.sl y44.fst.fst.fst [Kd.b, Kd.i IntKind.i64, Kd.s] y44.fst.fst.snd]]) (appX r31 [[DV.val (Value.string y42.fst.fst), DV.val (Value.string y43.fst.fst), DV.val (Value.string (Row.S (List.getD r12 (Int.toNat j32) []) 4)), DV.sl y44.fst.fst.fst [Kd.b, Kd.i IntKind.i64, Kd.s] y44.fst.fst.snd]]) (IntKind.wrap IntKind.i64 (j32 + 1))
          else none
        else obind (ref11_name_v n (Row.S (List.getD r12 (Int.toNat j32) []) 6) (Row.B (List.getD r12 (Int.toNat j32) []) 7) (Row.I (List.getD r12 (Int.toNat j32) []) 8) (Row.S (List.getD r12 (Int.toNat j32) []) 9) b13 r14) fun y45 =>
        obind (ref11_name_v n (Row.S (List.getD r12 (Int.toNat j32) []) 0) (Row.B (List.getD r12 (Int.toNat j32) []) 1) (Row.I (List.getD r12 (Int.toNat j32) []) 2) (Row.S (List.getD r12 (Int.toNat j32) []) 3) b13 r14) fun y46 =>
        obind (ref11_values_v n (Row.N (List.getD r12 (Int.toNat j32) []) 5) (Row.R (List.getD r12 (Int.toNat j32) []) 5) b13 r14) fun y47 =>
        bif !y45.fst.snd.fst then
          some (((true, []), (false, ())), ())
        else bif !y46.fst.snd.fst then
          some (((true, []), (false, ())), ())
        else bif !y47.fst.snd.fst then
          some (((true, []), (false, ())), ())
        else if List.length r31 + List.length [[DV.val (Value.string y45.fst.fst), DV.val (Value.string y46.fst.fst), DV.val (Value.string (Row.S (List.getD r12 (Int.toNat j32) []) 4)), DV.sl y47.fst.fst.fst [Kd.b, Kd.i IntKind.i64, Kd.s] y47.fst.fst.snd]] < 2147483648 then
          ref11_Body_l3 n s0 b1 j2 s3 s4 b5 r6 s7 b8 j9 s10 b11 r12 b13 r14 i0 (b30 && List.isEmpty [[DV.val (Value.string y45.fst.fst), DV.val (Value.string y46.fst.fst), DV.val (Value.string (Row.S (List.getD r12 (Int.toNat j32) []) 4)), DV.sl y47.fst.fst.fst [Kd.b, Kd.i IntKind.i64, Kd.s] y47.fst.fst.snd]]) (appX r31 [[DV.val (Value.string y45.fst.fst), DV.val (Value.string y46.fst.fst), DV.val (Value.string (Row.S (List.getD r12 (Int.toNat j32) []) 4)), DV.sl y47.fst.fst.fst [Kd.b, Kd.i IntKind.i64, Kd.s] y47.fst.fst.snd]]) (IntKind.wrap IntKind.i64 (j32 + 1))
        else none
      else none
    else none
  else some (((b30, r31), (true, ())), ()) := by kernel_rfl
theorem ref11_Body_e (n : Nat) (s0 : ByteArray) (b1 : Bool) (j2 : Int) (s3 : ByteArray) (s4 : ByteArray) (b5 : Bool) (r6 : Rows) (s7 : ByteArray) (b8 : Bool) (j9 : Int) (s10 : ByteArray) (b11 : Bool) (r12 : Rows) (b13 : Bool) (r14 : Rows) : ref11_Body_v n s0 b1 j2 s3 s4 b5 r6 s7 b8 j9 s10 b11 r12 b13 r14 =
  ref11_Body_l3 n s0 b1 j2 s3 s4 b5 r6 s7 b8 j9 s10 b11 r12 b13 r14 n true [] 0 := by kernel_rfl
theorem ref11_Body_c (n : Nat) (s0 : ByteArray) (b1 : Bool) (j2 : Int) (s3 : ByteArray) (s4 : ByteArray) (b5 : Bool) (r6 : Rows) (s7 : ByteArray) (b8 : Bool) (j9 : Int) (s10 : ByteArray) (b11 : Bool) (r12 : Rows) (b13 : Bool) (r14 : Rows) (y : ((Bool × Rows) × Bool × Unit) × Unit) (h : ref11_Body_v n s0 b1 j2 s3 s4 b5 r6 s7 b8 j9 s10 b11 r12 b13 r14 = some y) : Contract Try.prog 22 [AV.agg [AV.dv (DV.val (Value.string s0)), AV.dv (DV.val (Value.bool b1)), AV.dv (DV.val (Value.int IntKind.i64 j2)), AV.dv (DV.val (Value.string s3)), AV.dv (DV.val (Value.string s4)), AV.sl b5 [Kd.s, Kd.b, Kd.i IntKind.i64, Kd.s] r6 Right.no, AV.dv (DV.val (Value.string s7)), AV.dv (DV.val (Value.bool b8)), AV.dv (DV.val (Value.int IntKind.i64 j9)), AV.dv (DV.val (Value.string s10)), AV.sl b11 [Kd.s, Kd.b, Kd.i IntKind.i64, Kd.s, Kd.s, Kd.sl [Kd.s, Kd.b, Kd.i IntKind.i64, Kd.s], Kd.s, Kd.b, Kd.i IntKind.i64, Kd.s] r12 Right.no], AV.sl b13 [Kd.s, Kd.b, Kd.i IntKind.i64, Kd.s] r14 Right.no] [] (OSh.enc (OSh.plain (.tup [.slt [Kd.s, Kd.s, Kd.s, Kd.sl [Kd.b, Kd.i IntKind.i64, Kd.s]] 0, .b]) []) y) :=
  auto_okM tm_std (with_ok mixed (by kernel_rfl) (ref11_Body_σok n) n 0 []) (with_pick mixed (by kernel_rfl) (ref11_Body_σok n) n 0 []) mixed Try.func22 (by decide) (o := (OSh.plain (.tup [.slt [Kd.s, Kd.s, Kd.s, Kd.sl [Kd.b, Kd.i IntKind.i64, Kd.s]] 0, .b]) [])) h
/-! ref04_Like: function 23 -/
def ref04_Like_lv : Live := [(4, [0, 1, 5], [1000, 1001, 1002, 1003])]
noncomputable def ref04_Like_σ (n : Nat) : Spec := (inst 18 [.agg [.s, .s, .s, .sl [Kd.b, Kd.i IntKind.i64, Kd.s]], .agg [.s, .s, .s, .sl [Kd.b, Kd.i IntKind.i64, Kd.s]]] [] (OSh.plain (.i IntKind.i64) []) (fun x e => ref04_Order_v n x.1.1 x.1.2.1 x.1.2.2.1 x.1.2.2.2.1.1 x.1.2.2.2.1.2 x.2.1.1 x.2.1.2.1 x.2.1.2.2.1 x.2.1.2.2.2.1.1 x.2.1.2.2.2.1.2) Spec.none)
theorem ref04_Like_σok (n : Nat) : SpecOk Try.prog (ref04_Like_σ n) := (inst_ok (fun x e y h => ref04_Order_c n x.1.1 x.1.2.1 x.1.2.2.1 x.1.2.2.2.1.1 x.1.2.2.2.1.2 x.2.1.1 x.2.1.2.1 x.2.1.2.2.1 x.2.1.2.2.2.1.1 x.2.1.2.2.2.1.2 y h) (SpecOk.none _))
noncomputable def ref04_Like_Φ (n : Nat) : Orc := with_ Try.prog (ref04_Like_σ n) [] n 0 []
noncomputable def ref04_Like_v (n : Nat) (b0 : Bool) (r1 : Rows) (b2 : Bool) (r3 : Rows) : Option (Bool × Unit) :=
  DM.denFn tm (ref04_Like_Φ n) ref04_Like_lv n Try.f23 false [AV.sl b0 [Kd.s, Kd.s, Kd.s, Kd.sl [Kd.b, Kd.i IntKind.i64, Kd.s]] r1 Right.no, AV.sl b2 [Kd.s, Kd.s, Kd.s, Kd.sl [Kd.b, Kd.i IntKind.i64, Kd.s]] r3 Right.no] [] (OSh.chk (OSh.plain (.b) []))
noncomputable def ref04_Like_l4 (n : Nat) (b0 : Bool) (r1 : Rows) (b2 : Bool) (r3 : Rows) (i0 : Nat) (j5 : Int) : Option (Bool × Unit) :=
  DM.loopFn tm (ref04_Like_Φ n) ref04_Like_lv n Try.f23 false [] (OSh.chk (OSh.plain (.b) [])) 4 [] i0 (St.mk [AV.sl b0 [Kd.s, Kd.s, Kd.s, Kd.sl [Kd.b, Kd.i IntKind.i64, Kd.s]] r1 Right.no, AV.sl b2 [Kd.s, Kd.s, Kd.s, Kd.sl [Kd.b, Kd.i IntKind.i64, Kd.s]] r3 Right.no, AV.junk, AV.junk, AV.junk, AV.dv (DV.val (Value.int IntKind.i64 j5)), AV.junk, AV.junk, AV.junk, AV.junk, AV.junk, AV.junk, AV.junk, AV.junk, AV.junk, AV.junk, AV.junk, AV.junk, AV.junk, AV.junk, AV.junk, AV.junk, AV.junk, AV.junk, AV.junk, AV.junk, AV.junk] [])
theorem ref04_Like_s4 (n : Nat) (b0 : Bool) (r1 : Rows) (b2 : Bool) (r3 : Rows) (i0 : Nat) (j5 : Int) : ref04_Like_l4 n b0 r1 b2 r3 (i0 + 1) j5 =
  bif decide (j5 < (↑(List.length r1) : Int)) then
    if 0 ≤ j5 then
      if j5 < (↑(List.length r1) : Int) then
        if 0 ≤ j5 then
          if j5 < (↑(List.length r3) : Int) then
            obind (ref04_Order_v n (Row.S (List.getD r1 (Int.toNat j5) []) 0) (Row.S (List.getD r1 (Int.toNat j5) []) 1) (Row.S (List.getD r1 (Int.toNat j5) []) 2) (Row.N (List.getD r1 (Int.toNat j5) []) 3) (Row.R (List.getD r1 (Int.toNat j5) []) 3) (Row.S (List.getD r3 (Int.toNat j5) []) 0) (Row.S (List.getD r3 (Int.toNat j5) []) 1) (Row.S (List.getD r3 (Int.toNat j5) []) 2) (Row.N (List.getD r3 (Int.toNat j5) []) 3) (Row.R (List.getD r3 (Int.toNat j5) []) 3)) fun y6 =>
            bif y6.fst != 0 then
              some (false, ())
            else ref04_Like_l4 n b0 r1 b2 r3 i0 (IntKind.wrap IntKind.i64 (j5 + 1))
          else none
        else none
      else none
    else none
  else some (true, ()) := by kernel_rfl
theorem ref04_Like_e (n : Nat) (b0 : Bool) (r1 : Rows) (b2 : Bool) (r3 : Rows) : ref04_Like_v n b0 r1 b2 r3 =
  bif (↑(List.length r1) : Int) != (↑(List.length r3) : Int) then
    some (false, ())
  else ref04_Like_l4 n b0 r1 b2 r3 n 0 := by kernel_rfl
theorem ref04_Like_c (n : Nat) (b0 : Bool) (r1 : Rows) (b2 : Bool) (r3 : Rows) (y : Bool × Unit) (h : ref04_Like_v n b0 r1 b2 r3 = some y) : Contract Try.prog 23 [AV.sl b0 [Kd.s, Kd.s, Kd.s, Kd.sl [Kd.b, Kd.i IntKind.i64, Kd.s]] r1 Right.no, AV.sl b2 [Kd.s, Kd.s, Kd.s, Kd.sl [Kd.b, Kd.i IntKind.i64, Kd.s]] r3 Right.no] [] (OSh.enc (OSh.plain (.b) []) y) :=
  auto_okM tm_std (with_ok mixed (by kernel_rfl) (ref04_Like_σok n) n 0 []) (with_pick mixed (by kernel_rfl) (ref04_Like_σok n) n 0 []) mixed Try.func23 (by decide) (o := (OSh.plain (.b) [])) h
/-! law11_MatchHeads: function 6 -/
def law11_MatchHeads_lv : Live := []
noncomputable def law11_MatchHeads_σ (n : Nat) : Spec := (inst 15 [.agg [.s, .b, .i IntKind.i64, .s, .s, .sl [Kd.s, Kd.b, Kd.i IntKind.i64, Kd.s], .s, .b, .i IntKind.i64, .s, .sl [Kd.s, Kd.b, Kd.i IntKind.i64, Kd.s, Kd.s, Kd.sl [Kd.s, Kd.b, Kd.i IntKind.i64, Kd.s], Kd.s, Kd.b, Kd.i IntKind.i64, Kd.s]], .sl [Kd.s, Kd.s, Kd.s, Kd.sl [Kd.b, Kd.i IntKind.i64, Kd.s]], .sl [Kd.s, Kd.b, Kd.i IntKind.i64, Kd.s]] [] (OSh.plain (.b) []) (fun x e => law11_light_v n x.1.1 x.1.2.1 x.1.2.2.1 x.1.2.2.2.1 x.1.2.2.2.2.1 x.1.2.2.2.2.2.1.1 x.1.2.2.2.2.2.1.2 x.1.2.2.2.2.2.2.1 x.1.2.2.2.2.2.2.2.1 x.1.2.2.2.2.2.2.2.2.1 x.1.2.2.2.2.2.2.2.2.2.1 x.1.2.2.2.2.2.2.2.2.2.2.1.1 x.1.2.2.2.2.2.2.2.2.2.2.1.2 x.2.1.1 x.2.1.2 x.2.2.1.1 x.2.2.1.2) (inst 9 [] [] (OSh.plain (.b) []) (fun x e => law11_live_v n) (inst 19 [.agg [.s, .b, .i IntKind.i64, .s, .s, .sl [Kd.s, Kd.b, Kd.i IntKind.i64, Kd.s], .s, .b, .i IntKind.i64, .s, .sl [Kd.s, Kd.b, Kd.i IntKind.i64, Kd.s, Kd.s, Kd.sl [Kd.s, Kd.b, Kd.i IntKind.i64, Kd.s], Kd.s, Kd.b, Kd.i IntKind.i64, Kd.s]], .sl [Kd.s, Kd.b, Kd.i IntKind.i64, Kd.s]] [] (OSh.plain (.tup [.agg [.s, .s, .s, .sl [Kd.b, Kd.i IntKind.i64, Kd.s]], .b]) []) (fun x e => match_Head_v n x.1.1 x.1.2.1 x.1.2.2.1 x.1.2.2.2.1 x.1.2.2.2.2.1 x.1.2.2.2.2.2.1.1 x.1.2.2.2.2.2.1.2 x.1.2.2.2.2.2.2.1 x.1.2.2.2.2.2.2.2.1 x.1.2.2.2.2.2.2.2.2.1 x.1.2.2.2.2.2.2.2.2.2.1 x.1.2.2.2.2.2.2.2.2.2.2.1.1 x.1.2.2.2.2.2.2.2.2.2.2.1.2 x.2.1.1 x.2.1.2) (inst 20 [.agg [.s, .b, .i IntKind.i64, .s, .s, .sl [Kd.s, Kd.b, Kd.i IntKind.i64, Kd.s], .s, .b, .i IntKind.i64, .s, .sl [Kd.s, Kd.b, Kd.i IntKind.i64, Kd.s, Kd.s, Kd.sl [Kd.s, Kd.b, Kd.i IntKind.i64, Kd.s], Kd.s, Kd.b, Kd.i IntKind.i64, Kd.s]], .sl [Kd.s, Kd.b, Kd.i IntKind.i64, Kd.s]] [] (OSh.plain (.tup [.agg [.s, .s, .s, .sl [Kd.b, Kd.i IntKind.i64, Kd.s]], .b]) []) (fun x e => ref11_Head_v n x.1.1 x.1.2.1 x.1.2.2.1 x.1.2.2.2.1 x.1.2.2.2.2.1 x.1.2.2.2.2.2.1.1 x.1.2.2.2.2.2.1.2 x.1.2.2.2.2.2.2.1 x.1.2.2.2.2.2.2.2.1 x.1.2.2.2.2.2.2.2.2.1 x.1.2.2.2.2.2.2.2.2.2.1 x.1.2.2.2.2.2.2.2.2.2.2.1.1 x.1.2.2.2.2.2.2.2.2.2.2.1.2 x.2.1.1 x.2.1.2) (inst 21 [.agg [.s, .b, .i IntKind.i64, .s, .s, .sl [Kd.s, Kd.b, Kd.i IntKind.i64, Kd.s], .s, .b, .i IntKind.i64, .s, .sl [Kd.s, Kd.b, Kd.i IntKind.i64, Kd.s, Kd.s, Kd.sl [Kd.s, Kd.b, Kd.i IntKind.i64, Kd.s], Kd.s, Kd.b, Kd.i IntKind.i64, Kd.s]], .sl [Kd.s, Kd.b, Kd.i IntKind.i64, Kd.s]] [] (OSh.plain (.tup [.slt [Kd.s, Kd.s, Kd.s, Kd.sl [Kd.b, Kd.i IntKind.i64, Kd.s]] 0, .b]) []) (fun x e => match_Body_v n x.1.1 x.1.2.1 x.1.2.2.1 x.1.2.2.2.1 x.1.2.2.2.2.1 x.1.2.2.2.2.2.1.1 x.1.2.2.2.2.2.1.2 x.1.2.2.2.2.2.2.1 x.1.2.2.2.2.2.2.2.1 x.1.2.2.2.2.2.2.2.2.1 x.1.2.2.2.2.2.2.2.2.2.1 x.1.2.2.2.2.2.2.2.2.2.2.1.1 x.1.2.2.2.2.2.2.2.2.2.2.1.2 x.2.1.1 x.2.1.2) (inst 22 [.agg [.s, .b, .i IntKind.i64, .s, .s, .sl [Kd.s, Kd.b, Kd.i IntKind.i64, Kd.s], .s, .b, .i IntKind.i64, .s, .sl [Kd.s, Kd.b, Kd.i IntKind.i64, Kd.s, Kd.s, Kd.sl [Kd.s, Kd.b, Kd.i IntKind.i64, Kd.s], Kd.s, Kd.b, Kd.i IntKind.i64, Kd.s]], .sl [Kd.s, Kd.b, Kd.i IntKind.i64, Kd.s]] [] (OSh.plain (.tup [.slt [Kd.s, Kd.s, Kd.s, Kd.sl [Kd.b, Kd.i IntKind.i64, Kd.s]] 0, .b]) []) (fun x e => ref11_Body_v n x.1.1 x.1.2.1 x.1.2.2.1 x.1.2.2.2.1 x.1.2.2.2.2.1 x.1.2.2.2.2.2.1.1 x.1.2.2.2.2.2.1.2 x.1.2.2.2.2.2.2.1 x.1.2.2.2.2.2.2.2.1 x.1.2.2.2.2.2.2.2.2.1 x.1.2.2.2.2.2.2.2.2.2.1 x.1.2.2.2.2.2.2.2.2.2.2.1.1 x.1.2.2.2.2.2.2.2.2.2.2.1.2 x.2.1.1 x.2.1.2) (inst 18 [.agg [.s, .s, .s, .sl [Kd.b, Kd.i IntKind.i64, Kd.s]], .agg [.s, .s, .s, .sl [Kd.b, Kd.i IntKind.i64, Kd.s]]] [] (OSh.plain (.i IntKind.i64) []) (fun x e => ref04_Order_v n x.1.1 x.1.2.1 x.1.2.2.1 x.1.2.2.2.1.1 x.1.2.2.2.1.2 x.2.1.1 x.2.1.2.1 x.2.1.2.2.1 x.2.1.2.2.2.1.1 x.2.1.2.2.2.1.2) (inst 23 [.sl [Kd.s, Kd.s, Kd.s, Kd.sl [Kd.b, Kd.i IntKind.i64, Kd.s]], .sl [Kd.s, Kd.s, Kd.s, Kd.sl [Kd.b, Kd.i IntKind.i64, Kd.s]]] [] (OSh.plain (.b) []) (fun x e => ref04_Like_v n x.1.1 x.1.2 x.2.1.1 x.2.1.2) Spec.none))))))))
theorem law11_MatchHeads_σok (n : Nat) : SpecOk Try.prog (law11_MatchHeads_σ n) := (inst_ok (fun x e y h => law11_light_c n x.1.1 x.1.2.1 x.1.2.2.1 x.1.2.2.2.1 x.1.2.2.2.2.1 x.1.2.2.2.2.2.1.1 x.1.2.2.2.2.2.1.2 x.1.2.2.2.2.2.2.1 x.1.2.2.2.2.2.2.2.1 x.1.2.2.2.2.2.2.2.2.1 x.1.2.2.2.2.2.2.2.2.2.1 x.1.2.2.2.2.2.2.2.2.2.2.1.1 x.1.2.2.2.2.2.2.2.2.2.2.1.2 x.2.1.1 x.2.1.2 x.2.2.1.1 x.2.2.1.2 y h) (inst_ok (fun x e y h => law11_live_c n y h) (inst_ok (fun x e y h => match_Head_c n x.1.1 x.1.2.1 x.1.2.2.1 x.1.2.2.2.1 x.1.2.2.2.2.1 x.1.2.2.2.2.2.1.1 x.1.2.2.2.2.2.1.2 x.1.2.2.2.2.2.2.1 x.1.2.2.2.2.2.2.2.1 x.1.2.2.2.2.2.2.2.2.1 x.1.2.2.2.2.2.2.2.2.2.1 x.1.2.2.2.2.2.2.2.2.2.2.1.1 x.1.2.2.2.2.2.2.2.2.2.2.1.2 x.2.1.1 x.2.1.2 y h) (inst_ok (fun x e y h => ref11_Head_c n x.1.1 x.1.2.1 x.1.2.2.1 x.1.2.2.2.1 x.1.2.2.2.2.1 x.1.2.2.2.2.2.1.1 x.1.2.2.2.2.2.1.2 x.1.2.2.2.2.2.2.1 x.1.2.2.2.2.2.2.2.1 x.1.2.2.2.2.2.2.2.2.1 x.1.2.2.2.2.2.2.2.2.2.1 x.1.2.2.2.2.2.2.2.2.2.2.1.1 x.1.2.2.2.2.2.2.2.2.2.2.1.2 x.2.1.1 x.2.1.2 y h) (inst_ok (fun x e y h => match_Body_c n x.1.1 x.1.2.1 x.1.2.2.1 x.1.2.2.2.1 x.1.2.2.2.2.1 x.1.2.2.2.2.2.1.1 x.1.2.2.2.2.2.1.2 x.1.2.2.2.2.2.2.1 x.1.2.2.2.2.2.2.2.1 x.1.2.2.2.2.2.2.2.2.1 x.1.2.2.2.2.2.2.2.2.2.1 x.1.2.2.2.2.2.2.2.2.2.2.1.1 x.1.2.2.2.2.2.2.2.2.2.2.1.2 x.2.1.1 x.2.1.2 y h) (inst_ok (fun x e y h => ref11_Body_c n x.1.1 x.1.2.1 x.1.2.2.1 x.1.2.2.2.1 x.1.2.2.2.2.1 x.1.2.2.2.2.2.1.1 x.1.2.2.2.2.2.1.2 x.1.2.2.2.2.2.2.1 x.1.2.2.2.2.2.2.2.1 x.1.2.2.2.2.2.2.2.2.1 x.1.2.2.2.2.2.2.2.2.2.1 x.1.2.2.2.2.2.2.2.2.2.2.1.1 x.1.2.2.2.2.2.2.2.2.2.2.1.2 x.2.1.1 x.2.1.2 y h) (inst_ok (fun x e y h => ref04_Order_c n x.1.1 x.1.2.1 x.1.2.2.1 x.1.2.2.2.1.1 x.1.2.2.2.1.2 x.2.1.1 x.2.1.2.1 x.2.1.2.2.1 x.2.1.2.2.2.1.1 x.2.1.2.2.2.1.2 y h) (inst_ok (fun x e y h => ref04_Like_c n x.1.1 x.1.2 x.2.1.1 x.2.1.2 y h) (SpecOk.none _)))))))))
noncomputable def law11_MatchHeads_Φ (n : Nat) : Orc := with_ Try.prog (law11_MatchHeads_σ n) [] n 0 []
noncomputable def law11_MatchHeads_v (n : Nat) (s0 : ByteArray) (b1 : Bool) (j2 : Int) (s3 : ByteArray) (s4 : ByteArray) (b5 : Bool) (r6 : Rows) (s7 : ByteArray) (b8 : Bool) (j9 : Int) (s10 : ByteArray) (b11 : Bool) (r12 : Rows) (b13 : Bool) (r14 : Rows) : Option (Bool × Unit) :=
  DM.denFn tm (law11_MatchHeads_Φ n) law11_MatchHeads_lv n Try.f6 false [AV.agg [AV.dv (DV.val (Value.string s0)), AV.dv (DV.val (Value.bool b1)), AV.dv (DV.val (Value.int IntKind.i64 j2)), AV.dv (DV.val (Value.string s3)), AV.dv (DV.val (Value.string s4)), AV.sl b5 [Kd.s, Kd.b, Kd.i IntKind.i64, Kd.s] r6 Right.no, AV.dv (DV.val (Value.string s7)), AV.dv (DV.val (Value.bool b8)), AV.dv (DV.val (Value.int IntKind.i64 j9)), AV.dv (DV.val (Value.string s10)), AV.sl b11 [Kd.s, Kd.b, Kd.i IntKind.i64, Kd.s, Kd.s, Kd.sl [Kd.s, Kd.b, Kd.i IntKind.i64, Kd.s], Kd.s, Kd.b, Kd.i IntKind.i64, Kd.s] r12 Right.no], AV.sl b13 [Kd.s, Kd.b, Kd.i IntKind.i64, Kd.s] r14 Right.no] [] (OSh.chk (OSh.plain (.b) []))
theorem law11_MatchHeads_e (n : Nat) (s0 : ByteArray) (b1 : Bool) (j2 : Int) (s3 : ByteArray) (s4 : ByteArray) (b5 : Bool) (r6 : Rows) (s7 : ByteArray) (b8 : Bool) (j9 : Int) (s10 : ByteArray) (b11 : Bool) (r12 : Rows) (b13 : Bool) (r14 : Rows) : law11_MatchHeads_v n s0 b1 j2 s3 s4 b5 r6 s7 b8 j9 s10 b11 r12 b13 r14 =
  obind (law11_light_v n s0 b1 j2 s3 s4 b5 r6 s7 b8 j9 s10 b11 r12 true [] b13 r14) fun y15 =>
  bif !y15.fst then
    obind (law11_live_v n) fun y16 =>
    some (y16.fst, ())
  else obind (match_Head_v n s0 b1 j2 s3 s4 b5 r6 s7 b8 j9 s10 b11 r12 b13 r14) fun y17 =>
  obind (ref11_Head_v n s0 b1 j2 s3 s4 b5 r6 s7 b8 j9 s10 b11 r12 b13 r14) fun y18 =>
  obind (match_Body_v n s0 b1 j2 s3 s4 b5 r6 s7 b8 j9 s10 b11 r12 b13 r14) fun y19 =>
  obind (ref11_Body_v n s0 b1 j2 s3 s4 b5 r6 s7 b8 j9 s10 b11 r12 b13 r14) fun y20 =>
  obind (ref04_Order_v n y17.fst.fst.fst y17.fst.fst.snd.fst y17.fst.fst.snd.snd.fst y17.fst.fst.snd.snd.snd.fst.fst y17.fst.fst.snd.snd.snd.fst.snd y18.fst.fst.fst y18.fst.fst.snd.fst y18.fst.fst.snd.snd.fst y18.fst.fst.snd.snd.snd.fst.fst y18.fst.fst.snd.snd.snd.fst.snd) fun y21 =>
  bif y21.fst == 0 then
    bif y17.fst.snd.fst == y18.fst.snd.fst then
      obind (ref04_Like_v n y19.fst.fst.fst y19.fst.fst.snd y20.fst.fst.fst y20.fst.fst.snd) fun y22 =>
      bif y22.fst then
        bif y19.fst.snd.fst == y20.fst.snd.fst then
          obind (law11_live_v n) fun y23 =>
          some (y23.fst, ())
        else some (false, ())
      else some (false, ())
    else some (false, ())
  else some (false, ()) := by kernel_rfl
theorem law11_MatchHeads_c (n : Nat) (s0 : ByteArray) (b1 : Bool) (j2 : Int) (s3 : ByteArray) (s4 : ByteArray) (b5 : Bool) (r6 : Rows) (s7 : ByteArray) (b8 : Bool) (j9 : Int) (s10 : ByteArray) (b11 : Bool) (r12 : Rows) (b13 : Bool) (r14 : Rows) (y : Bool × Unit) (h : law11_MatchHeads_v n s0 b1 j2 s3 s4 b5 r6 s7 b8 j9 s10 b11 r12 b13 r14 = some y) : Contract Try.prog 6 [AV.agg [AV.dv (DV.val (Value.string s0)), AV.dv (DV.val (Value.bool b1)), AV.dv (DV.val (Value.int IntKind.i64 j2)), AV.dv (DV.val (Value.string s3)), AV.dv (DV.val (Value.string s4)), AV.sl b5 [Kd.s, Kd.b, Kd.i IntKind.i64, Kd.s] r6 Right.no, AV.dv (DV.val (Value.string s7)), AV.dv (DV.val (Value.bool b8)), AV.dv (DV.val (Value.int IntKind.i64 j9)), AV.dv (DV.val (Value.string s10)), AV.sl b11 [Kd.s, Kd.b, Kd.i IntKind.i64, Kd.s, Kd.s, Kd.sl [Kd.s, Kd.b, Kd.i IntKind.i64, Kd.s], Kd.s, Kd.b, Kd.i IntKind.i64, Kd.s] r12 Right.no], AV.sl b13 [Kd.s, Kd.b, Kd.i IntKind.i64, Kd.s] r14 Right.no] [] (OSh.enc (OSh.plain (.b) []) y) :=
  auto_okM tm_std (with_ok mixed (by kernel_rfl) (law11_MatchHeads_σok n) n 0 []) (with_pick mixed (by kernel_rfl) (law11_MatchHeads_σok n) n 0 []) mixed Try.func6 (by decide) (o := (OSh.plain (.b) [])) h
/-! cmp_isNaN: function 51 -/
def cmp_isNaN_lv : Live := []
noncomputable def cmp_isNaN_σ (n : Nat) : Spec := Spec.none
theorem cmp_isNaN_σok (n : Nat) : SpecOk Try.prog (cmp_isNaN_σ n) := (SpecOk.none _)
noncomputable def cmp_isNaN_Φ (n : Nat) : Orc := with_ Try.prog (cmp_isNaN_σ n) [] n 0 []
noncomputable def cmp_isNaN_v (n : Nat) (s0 : ByteArray) : Option (Bool × Unit) :=
  DM.denFn tm (cmp_isNaN_Φ n) cmp_isNaN_lv n Try.f51 false [AV.dv (DV.val (Value.string s0))] [] (OSh.chk (OSh.plain (.b) []))
theorem cmp_isNaN_e (n : Nat) (s0 : ByteArray) : cmp_isNaN_v n s0 =
  some (!s0 == s0, ()) := by kernel_rfl
theorem cmp_isNaN_c (n : Nat) (s0 : ByteArray) (y : Bool × Unit) (h : cmp_isNaN_v n s0 = some y) : Contract Try.prog 51 [AV.dv (DV.val (Value.string s0))] [] (OSh.enc (OSh.plain (.b) []) y) :=
  auto_okM tm_std (with_ok mixed (by kernel_rfl) (cmp_isNaN_σok n) n 0 []) (with_pick mixed (by kernel_rfl) (cmp_isNaN_σok n) n 0 []) mixed Try.func51 (by decide) (o := (OSh.plain (.b) [])) h
end Go.Den
