import Derived.Test.YtcpbnfnfmfaogaaMemo0416
set_option linter.unusedVariables false
set_option linter.unusedSimpArgs false
set_option linter.unusedSectionVars false
namespace Go.Den
open Go.Proofs
set_option maxRecDepth 100000
/-! fact_text: function 58 -/
def fact_text_lv : Live := []
noncomputable def fact_text_σ (n : Nat) : Spec := Spec.none
theorem fact_text_σok (n : Nat) : SpecOk Try.prog (fact_text_σ n) := (SpecOk.none _)
noncomputable def fact_text_Φ (n : Nat) : Orc := with_ Try.prog (fact_text_σ n) [] n 0 [1000067, 1000069]
noncomputable def fact_text_v (n : Nat) (s0 : ByteArray) : Option (Bool × Unit) :=
  DM.denFn tm (fact_text_Φ n) fact_text_lv n Try.f58 false [AV.dv (DV.val (Value.string s0))] [] (OSh.chk (OSh.plain (.b) []))
theorem fact_text_e (n : Nat) (s0 : ByteArray) : fact_text_v n s0 =
  bif decide ((↑(ByteArray.size s0) : Int) ≥ 1) then
    some (decide ((↑(ByteArray.size s0) : Int) ≤ 32), ())
  else some (false, ()) := by kernel_rfl
theorem fact_text_c (n : Nat) (s0 : ByteArray) (y : Bool × Unit) (h : fact_text_v n s0 = some y) : Contract Try.prog 58 [AV.dv (DV.val (Value.string s0))] [] (OSh.enc (OSh.plain (.b) []) y) :=
  auto_okM tm_std (with_ok mixed (by kernel_rfl) (fact_text_σok n) n 0 [1000067, 1000069]) (with_pick mixed (by kernel_rfl) (fact_text_σok n) n 0 [1000067, 1000069]) mixed Try.func58 (by decide) (o := (OSh.plain (.b) [])) h
/-! fact_Good: function 15 -/
def fact_Good_lv : Live := []
noncomputable def fact_Good_σ (n : Nat) : Spec := (inst 58 [.s] [] (OSh.plain (.b) []) (fun x e => fact_text_v n x.1) Spec.none)
theorem fact_Good_σok (n : Nat) : SpecOk Try.prog (fact_Good_σ n) := (inst_ok (fun x e y h => fact_text_c n x.1 y h) (SpecOk.none _))
noncomputable def fact_Good_Φ (n : Nat) : Orc := with_ Try.prog (fact_Good_σ n) [] n 0 [1000067, 1000069]
noncomputable def fact_Good_v (n : Nat) (b0 : Bool) (j1 : Int) (s2 : ByteArray) : Option (Bool × Unit) :=
  DM.denFn tm (fact_Good_Φ n) fact_Good_lv n Try.f15 false [AV.agg [AV.dv (DV.val (Value.bool b0)), AV.dv (DV.val (Value.int IntKind.i64 j1)), AV.dv (DV.val (Value.string s2))]] [] (OSh.chk (OSh.plain (.b) []))
theorem fact_Good_e (n : Nat) (b0 : Bool) (j1 : Int) (s2 : ByteArray) : fact_Good_v n b0 j1 s2 =
  bif b0 then
    some (s2 == ByteArray.mk #[], ())
  else bif j1 == 0 then
    obind (fact_text_v n s2) fun y3 =>
    some (y3.fst, ())
  else some (false, ()) := by kernel_rfl
theorem fact_Good_c (n : Nat) (b0 : Bool) (j1 : Int) (s2 : ByteArray) (y : Bool × Unit) (h : fact_Good_v n b0 j1 s2 = some y) : Contract Try.prog 15 [AV.agg [AV.dv (DV.val (Value.bool b0)), AV.dv (DV.val (Value.int IntKind.i64 j1)), AV.dv (DV.val (Value.string s2))]] [] (OSh.enc (OSh.plain (.b) []) y) :=
  auto_okM tm_std (with_ok mixed (by kernel_rfl) (fact_Good_σok n) n 0 [1000067, 1000069]) (with_pick mixed (by kernel_rfl) (fact_Good_σok n) n 0 [1000067, 1000069]) mixed Try.func15 (by decide) (o := (OSh.plain (.b) [])) h
/-! ref04_Text: function 59 -/
def ref04_Text_lv : Live := []
noncomputable def ref04_Text_σ (n : Nat) : Spec := Spec.none
theorem ref04_Text_σok (n : Nat) : SpecOk Try.prog (ref04_Text_σ n) := (SpecOk.none _)
noncomputable def ref04_Text_Φ (n : Nat) : Orc := with_ Try.prog (ref04_Text_σ n) [] n 0 [1000067, 1000069]
noncomputable def ref04_Text_v (n : Nat) (s0 : ByteArray) : Option (Bool × Unit) :=
  DM.denFn tm (ref04_Text_Φ n) ref04_Text_lv n Try.f59 false [AV.dv (DV.val (Value.string s0))] [] (OSh.chk (OSh.plain (.b) []))
theorem ref04_Text_e (n : Nat) (s0 : ByteArray) : ref04_Text_v n s0 =
  bif decide ((↑(ByteArray.size s0) : Int) ≥ 1) then
    some (decide ((↑(ByteArray.size s0) : Int) ≤ 32), ())
  else some (false, ()) := by kernel_rfl
theorem ref04_Text_c (n : Nat) (s0 : ByteArray) (y : Bool × Unit) (h : ref04_Text_v n s0 = some y) : Contract Try.prog 59 [AV.dv (DV.val (Value.string s0))] [] (OSh.enc (OSh.plain (.b) []) y) :=
  auto_okM tm_std (with_ok mixed (by kernel_rfl) (ref04_Text_σok n) n 0 [1000067, 1000069]) (with_pick mixed (by kernel_rfl) (ref04_Text_σok n) n 0 [1000067, 1000069]) mixed Try.func59 (by decide) (o := (OSh.plain (.b) [])) h
/-! ref04_Good: function 16 -/
def ref04_Good_lv : Live := []
noncomputable def ref04_Good_σ (n : Nat) : Spec := (inst 59 [.s] [] (OSh.plain (.b) []) (fun x e => ref04_Text_v n x.1) Spec.none)
theorem ref04_Good_σok (n : Nat) : SpecOk Try.prog (ref04_Good_σ n) := (inst_ok (fun x e y h => ref04_Text_c n x.1 y h) (SpecOk.none _))
noncomputable def ref04_Good_Φ (n : Nat) : Orc := with_ Try.prog (ref04_Good_σ n) [] n 0 [1000067, 1000069]
noncomputable def ref04_Good_v (n : Nat) (b0 : Bool) (j1 : Int) (s2 : ByteArray) : Option (Bool × Unit) :=
  DM.denFn tm (ref04_Good_Φ n) ref04_Good_lv n Try.f16 false [AV.agg [AV.dv (DV.val (Value.bool b0)), AV.dv (DV.val (Value.int IntKind.i64 j1)), AV.dv (DV.val (Value.string s2))]] [] (OSh.chk (OSh.plain (.b) []))
theorem ref04_Good_e (n : Nat) (b0 : Bool) (j1 : Int) (s2 : ByteArray) : ref04_Good_v n b0 j1 s2 =
  bif b0 then
    some (s2 == ByteArray.mk #[], ())
  else bif j1 == 0 then
    obind (ref04_Text_v n s2) fun y3 =>
    some (y3.fst, ())
  else some (false, ()) := by kernel_rfl
theorem ref04_Good_c (n : Nat) (b0 : Bool) (j1 : Int) (s2 : ByteArray) (y : Bool × Unit) (h : ref04_Good_v n b0 j1 s2 = some y) : Contract Try.prog 16 [AV.agg [AV.dv (DV.val (Value.bool b0)), AV.dv (DV.val (Value.int IntKind.i64 j1)), AV.dv (DV.val (Value.string s2))]] [] (OSh.enc (OSh.plain (.b) []) y) :=
  auto_okM tm_std (with_ok mixed (by kernel_rfl) (ref04_Good_σok n) n 0 [1000067, 1000069]) (with_pick mixed (by kernel_rfl) (ref04_Good_σok n) n 0 [1000067, 1000069]) mixed Try.func16 (by decide) (o := (OSh.plain (.b) [])) h
/-! cmp_isNaN: function 91 -/
def cmp_isNaN_lv : Live := []
noncomputable def cmp_isNaN_σ (n : Nat) : Spec := Spec.none
theorem cmp_isNaN_σok (n : Nat) : SpecOk Try.prog (cmp_isNaN_σ n) := (SpecOk.none _)
noncomputable def cmp_isNaN_Φ (n : Nat) : Orc := with_ Try.prog (cmp_isNaN_σ n) [] n 0 [1000067, 1000069]
noncomputable def cmp_isNaN_v (n : Nat) (j0 : Int) : Option (Bool × Unit) :=
  DM.denFn tm (cmp_isNaN_Φ n) cmp_isNaN_lv n Try.f91 false [AV.dv (DV.val (Value.int IntKind.i64 j0))] [] (OSh.chk (OSh.plain (.b) []))
theorem cmp_isNaN_e (n : Nat) (j0 : Int) : cmp_isNaN_v n j0 =
  some (j0 != j0, ()) := by kernel_rfl
theorem cmp_isNaN_c (n : Nat) (j0 : Int) (y : Bool × Unit) (h : cmp_isNaN_v n j0 = some y) : Contract Try.prog 91 [AV.dv (DV.val (Value.int IntKind.i64 j0))] [] (OSh.enc (OSh.plain (.b) []) y) :=
  auto_okM tm_std (with_ok mixed (by kernel_rfl) (cmp_isNaN_σok n) n 0 [1000067, 1000069]) (with_pick mixed (by kernel_rfl) (cmp_isNaN_σok n) n 0 [1000067, 1000069]) mixed Try.func91 (by decide) (o := (OSh.plain (.b) [])) h
/-! cmp_Compare: function 61 -/
def cmp_Compare_lv : Live := []
noncomputable def cmp_Compare_σ (n : Nat) : Spec := (inst 91 [.i IntKind.i64] [] (OSh.plain (.b) []) (fun x e => cmp_isNaN_v n x.1) Spec.none)
theorem cmp_Compare_σok (n : Nat) : SpecOk Try.prog (cmp_Compare_σ n) := (inst_ok (fun x e y h => cmp_isNaN_c n x.1 y h) (SpecOk.none _))
noncomputable def cmp_Compare_Φ (n : Nat) : Orc := with_ Try.prog (cmp_Compare_σ n) [] n 0 [1000067, 1000069]
noncomputable def cmp_Compare_v (n : Nat) (j0 : Int) (j1 : Int) : Option (Int × Unit) :=
  DM.denFn tm (cmp_Compare_Φ n) cmp_Compare_lv n Try.f61 false [AV.dv (DV.val (Value.int IntKind.i64 j0)), AV.dv (DV.val (Value.int IntKind.i64 j1))] [] (OSh.chk (OSh.plain (.i IntKind.i64) []))
theorem cmp_Compare_e (n : Nat) (j0 : Int) (j1 : Int) : cmp_Compare_v n j0 j1 =
  obind (cmp_isNaN_v n j0) fun y2 =>
  obind (cmp_isNaN_v n j1) fun y3 =>
  bif y2.fst then
    bif y3.fst then
      some (0, ())
    else some (-1, ())
  else bif y3.fst then
    some (1, ())
  else bif decide (j0 < j1) then
    some (-1, ())
  else bif decide (j0 > j1) then
    some (1, ())
  else some (0, ()) := by kernel_rfl
theorem cmp_Compare_c (n : Nat) (j0 : Int) (j1 : Int) (y : Int × Unit) (h : cmp_Compare_v n j0 j1 = some y) : Contract Try.prog 61 [AV.dv (DV.val (Value.int IntKind.i64 j0)), AV.dv (DV.val (Value.int IntKind.i64 j1))] [] (OSh.enc (OSh.plain (.i IntKind.i64) []) y) :=
  auto_okM tm_std (with_ok mixed (by kernel_rfl) (cmp_Compare_σok n) n 0 [1000067, 1000069]) (with_pick mixed (by kernel_rfl) (cmp_Compare_σok n) n 0 [1000067, 1000069]) mixed Try.func61 (by decide) (o := (OSh.plain (.i IntKind.i64) [])) h
/-! cmp_isNaN_i2: function 92 -/
def cmp_isNaN_i2_lv : Live := []
noncomputable def cmp_isNaN_i2_σ (n : Nat) : Spec := Spec.none
theorem cmp_isNaN_i2_σok (n : Nat) : SpecOk Try.prog (cmp_isNaN_i2_σ n) := (SpecOk.none _)
noncomputable def cmp_isNaN_i2_Φ (n : Nat) : Orc := with_ Try.prog (cmp_isNaN_i2_σ n) [] n 0 [1000067, 1000069]
noncomputable def cmp_isNaN_i2_v (n : Nat) (s0 : ByteArray) : Option (Bool × Unit) :=
  DM.denFn tm (cmp_isNaN_i2_Φ n) cmp_isNaN_i2_lv n Try.f92 false [AV.dv (DV.val (Value.string s0))] [] (OSh.chk (OSh.plain (.b) []))
theorem cmp_isNaN_i2_e (n : Nat) (s0 : ByteArray) : cmp_isNaN_i2_v n s0 =
  some (!s0 == s0, ()) := by kernel_rfl
theorem cmp_isNaN_i2_c (n : Nat) (s0 : ByteArray) (y : Bool × Unit) (h : cmp_isNaN_i2_v n s0 = some y) : Contract Try.prog 92 [AV.dv (DV.val (Value.string s0))] [] (OSh.enc (OSh.plain (.b) []) y) :=
  auto_okM tm_std (with_ok mixed (by kernel_rfl) (cmp_isNaN_i2_σok n) n 0 [1000067, 1000069]) (with_pick mixed (by kernel_rfl) (cmp_isNaN_i2_σok n) n 0 [1000067, 1000069]) mixed Try.func92 (by decide) (o := (OSh.plain (.b) [])) h
/-! cmp_Compare_i2: function 62 -/
def cmp_Compare_i2_lv : Live := []
noncomputable def cmp_Compare_i2_σ (n : Nat) : Spec := (inst 92 [.s] [] (OSh.plain (.b) []) (fun x e => cmp_isNaN_i2_v n x.1) Spec.none)
theorem cmp_Compare_i2_σok (n : Nat) : SpecOk Try.prog (cmp_Compare_i2_σ n) := (inst_ok (fun x e y h => cmp_isNaN_i2_c n x.1 y h) (SpecOk.none _))
noncomputable def cmp_Compare_i2_Φ (n : Nat) : Orc := with_ Try.prog (cmp_Compare_i2_σ n) [] n 0 [1000067, 1000069]
noncomputable def cmp_Compare_i2_v (n : Nat) (s0 : ByteArray) (s1 : ByteArray) : Option (Int × Unit) :=
  DM.denFn tm (cmp_Compare_i2_Φ n) cmp_Compare_i2_lv n Try.f62 false [AV.dv (DV.val (Value.string s0)), AV.dv (DV.val (Value.string s1))] [] (OSh.chk (OSh.plain (.i IntKind.i64) []))
theorem cmp_Compare_i2_e (n : Nat) (s0 : ByteArray) (s1 : ByteArray) : cmp_Compare_i2_v n s0 s1 =
  obind (cmp_isNaN_i2_v n s0) fun y2 =>
  obind (cmp_isNaN_i2_v n s1) fun y3 =>
  bif y2.fst then
    bif y3.fst then
      some (0, ())
    else some (-1, ())
  else bif y3.fst then
    some (1, ())
  else bif Op.bytesLess (ByteArray.toList s0) (ByteArray.toList s1) then
    some (-1, ())
  else bif !(Op.bytesLess (ByteArray.toList s0) (ByteArray.toList s1) || s0 == s1) then
    some (1, ())
  else some (0, ()) := by kernel_rfl
theorem cmp_Compare_i2_c (n : Nat) (s0 : ByteArray) (s1 : ByteArray) (y : Int × Unit) (h : cmp_Compare_i2_v n s0 s1 = some y) : Contract Try.prog 62 [AV.dv (DV.val (Value.string s0)), AV.dv (DV.val (Value.string s1))] [] (OSh.enc (OSh.plain (.i IntKind.i64) []) y) :=
  auto_okM tm_std (with_ok mixed (by kernel_rfl) (cmp_Compare_i2_σok n) n 0 [1000067, 1000069]) (with_pick mixed (by kernel_rfl) (cmp_Compare_i2_σok n) n 0 [1000067, 1000069]) mixed Try.func62 (by decide) (o := (OSh.plain (.i IntKind.i64) [])) h
/-! cmp_Or: function 60 -/
def cmp_Or_lv : Live := [(3, [3, 6, 7, 8], [1000, 1001, 1002, 1003])]
noncomputable def cmp_Or_σ (n : Nat) : Spec := Spec.none
theorem cmp_Or_σok (n : Nat) : SpecOk Try.prog (cmp_Or_σ n) := (SpecOk.none _)
noncomputable def cmp_Or_Φ (n : Nat) : Orc := with_ Try.prog (cmp_Or_σ n) [] n 0 [1000067, 1000069]
noncomputable def cmp_Or_v (n : Nat) (b0 : Bool) (r1 : Rows) : Option (Int × Unit) :=
  DM.denFn tm (cmp_Or_Φ n) cmp_Or_lv n Try.f60 false [AV.sl b0 [Kd.i IntKind.i64] r1 Right.no] [] (OSh.chk (OSh.plain (.i IntKind.i64) []))
noncomputable def cmp_Or_l3 (n : Nat) (b0 : Bool) (r1 : Rows) (i0 : Nat) (j2 : Int) : Option (Int × Unit) :=
  DM.loopFn tm (cmp_Or_Φ n) cmp_Or_lv n Try.f60 false [] (OSh.chk (OSh.plain (.i IntKind.i64) [])) 3 [] i0 (St.mk [AV.junk, AV.junk, AV.junk, AV.dv (DV.val (Value.int IntKind.i64 0)), AV.junk, AV.junk, AV.sl b0 [Kd.i IntKind.i64] r1 Right.no, AV.dv (DV.val (Value.int IntKind.i64 (↑(List.length r1) : Int))), AV.dv (DV.val (Value.int IntKind.i64 j2)), AV.junk, AV.junk, AV.junk, AV.junk, AV.junk, AV.junk, AV.junk, AV.junk, AV.junk] [])
theorem cmp_Or_s3 (n : Nat) (b0 : Bool) (r1 : Rows) (i0 : Nat) (j2 : Int) : cmp_Or_l3 n b0 r1 (i0 + 1) j2 =
  bif decide (j2 < (↑(List.length r1) : Int)) then
    if 0 ≤ j2 then
      if j2 < (↑(List.length r1) : Int) then
        bif Row.I (List.getD r1 (Int.toNat j2) []) 0 != 0 then
          some (Row.I (List.getD r1 (Int.toNat j2) []) 0, ())
        else cmp_Or_l3 n b0 r1 i0 (IntKind.wrap IntKind.i64 (j2 + 1))
      else none
    else none
  else some (0, ()) := by kernel_rfl
theorem cmp_Or_e (n : Nat) (b0 : Bool) (r1 : Rows) : cmp_Or_v n b0 r1 =
  cmp_Or_l3 n b0 r1 n 0 := by kernel_rfl
theorem cmp_Or_c (n : Nat) (b0 : Bool) (r1 : Rows) (y : Int × Unit) (h : cmp_Or_v n b0 r1 = some y) : Contract Try.prog 60 [AV.sl b0 [Kd.i IntKind.i64] r1 Right.no] [] (OSh.enc (OSh.plain (.i IntKind.i64) []) y) :=
  auto_okM tm_std (with_ok mixed (by kernel_rfl) (cmp_Or_σok n) n 0 [1000067, 1000069]) (with_pick mixed (by kernel_rfl) (cmp_Or_σok n) n 0 [1000067, 1000069]) mixed Try.func60 (by decide) (o := (OSh.plain (.i IntKind.i64) [])) h
/-! fact_Compare: function 17 -/
def fact_Compare_lv : Live := []
noncomputable def fact_Compare_σ (n : Nat) : Spec := (inst 61 [.i IntKind.i64, .i IntKind.i64] [] (OSh.plain (.i IntKind.i64) []) (fun x e => cmp_Compare_v n x.1 x.2.1) (inst 62 [.s, .s] [] (OSh.plain (.i IntKind.i64) []) (fun x e => cmp_Compare_i2_v n x.1 x.2.1) (inst 60 [.sl [Kd.i IntKind.i64]] [] (OSh.plain (.i IntKind.i64) []) (fun x e => cmp_Or_v n x.1.1 x.1.2) Spec.none)))
theorem fact_Compare_σok (n : Nat) : SpecOk Try.prog (fact_Compare_σ n) := (inst_ok (fun x e y h => cmp_Compare_c n x.1 x.2.1 y h) (inst_ok (fun x e y h => cmp_Compare_i2_c n x.1 x.2.1 y h) (inst_ok (fun x e y h => cmp_Or_c n x.1.1 x.1.2 y h) (SpecOk.none _))))
noncomputable def fact_Compare_Φ (n : Nat) : Orc := with_ Try.prog (fact_Compare_σ n) [] n 0 [1000067, 1000069]
noncomputable def fact_Compare_v (n : Nat) (b0 : Bool) (j1 : Int) (s2 : ByteArray) (b3 : Bool) (j4 : Int) (s5 : ByteArray) : Option (Int × Unit) :=
  DM.denFn tm (fact_Compare_Φ n) fact_Compare_lv n Try.f17 false [AV.agg [AV.dv (DV.val (Value.bool b0)), AV.dv (DV.val (Value.int IntKind.i64 j1)), AV.dv (DV.val (Value.string s2))], AV.agg [AV.dv (DV.val (Value.bool b3)), AV.dv (DV.val (Value.int IntKind.i64 j4)), AV.dv (DV.val (Value.string s5))]] [] (OSh.chk (OSh.plain (.i IntKind.i64) []))
theorem fact_Compare_e (n : Nat) (b0 : Bool) (j1 : Int) (s2 : ByteArray) (b3 : Bool) (j4 : Int) (s5 : ByteArray) : fact_Compare_v n b0 j1 s2 b3 j4 s5 =
  bif !b0 == b3 then
    bif b0 then
      some (-1, ())
    else some (1, ())
  else obind (cmp_Compare_v n j1 j4) fun y6 =>
  obind (cmp_Compare_i2_v n s2 s5) fun y7 =>
  obind (cmp_Or_v n false ([[DV.val (Value.int IntKind.i64 y6.fst)], [DV.val (Value.int IntKind.i64 y7.fst)]])) fun y8 =>
  some (y8.fst, ()) := by kernel_rfl
theorem fact_Compare_c (n : Nat) (b0 : Bool) (j1 : Int) (s2 : ByteArray) (b3 : Bool) (j4 : Int) (s5 : ByteArray) (y : Int × Unit) (h : fact_Compare_v n b0 j1 s2 b3 j4 s5 = some y) : Contract Try.prog 17 [AV.agg [AV.dv (DV.val (Value.bool b0)), AV.dv (DV.val (Value.int IntKind.i64 j1)), AV.dv (DV.val (Value.string s2))], AV.agg [AV.dv (DV.val (Value.bool b3)), AV.dv (DV.val (Value.int IntKind.i64 j4)), AV.dv (DV.val (Value.string s5))]] [] (OSh.enc (OSh.plain (.i IntKind.i64) []) y) :=
  auto_okM tm_std (with_ok mixed (by kernel_rfl) (fact_Compare_σok n) n 0 [1000067, 1000069]) (with_pick mixed (by kernel_rfl) (fact_Compare_σok n) n 0 [1000067, 1000069]) mixed Try.func17 (by decide) (o := (OSh.plain (.i IntKind.i64) [])) h
/-! ref04_texts: function 63 -/
def ref04_texts_lv : Live := []
noncomputable def ref04_texts_σ (n : Nat) : Spec := Spec.none
theorem ref04_texts_σok (n : Nat) : SpecOk Try.prog (ref04_texts_σ n) := (SpecOk.none _)
noncomputable def ref04_texts_Φ (n : Nat) : Orc := with_ Try.prog (ref04_texts_σ n) [] n 0 [1000067, 1000069]
noncomputable def ref04_texts_v (n : Nat) (s0 : ByteArray) (s1 : ByteArray) : Option (Int × Unit) :=
  DM.denFn tm (ref04_texts_Φ n) ref04_texts_lv n Try.f63 false [AV.dv (DV.val (Value.string s0)), AV.dv (DV.val (Value.string s1))] [] (OSh.chk (OSh.plain (.i IntKind.i64) []))
theorem ref04_texts_e (n : Nat) (s0 : ByteArray) (s1 : ByteArray) : ref04_texts_v n s0 s1 =
  bif Op.bytesLess (ByteArray.toList s0) (ByteArray.toList s1) then
    some (-1, ())
  else bif !(Op.bytesLess (ByteArray.toList s0) (ByteArray.toList s1) || s0 == s1) then
    some (1, ())
  else some (0, ()) := by kernel_rfl
theorem ref04_texts_c (n : Nat) (s0 : ByteArray) (s1 : ByteArray) (y : Int × Unit) (h : ref04_texts_v n s0 s1 = some y) : Contract Try.prog 63 [AV.dv (DV.val (Value.string s0)), AV.dv (DV.val (Value.string s1))] [] (OSh.enc (OSh.plain (.i IntKind.i64) []) y) :=
  auto_okM tm_std (with_ok mixed (by kernel_rfl) (ref04_texts_σok n) n 0 [1000067, 1000069]) (with_pick mixed (by kernel_rfl) (ref04_texts_σok n) n 0 [1000067, 1000069]) mixed Try.func63 (by decide) (o := (OSh.plain (.i IntKind.i64) [])) h
/-! ref04_Compare: function 18 -/
def ref04_Compare_lv : Live := []
noncomputable def ref04_Compare_σ (n : Nat) : Spec := (inst 63 [.s, .s] [] (OSh.plain (.i IntKind.i64) []) (fun x e => ref04_texts_v n x.1 x.2.1) Spec.none)
theorem ref04_Compare_σok (n : Nat) : SpecOk Try.prog (ref04_Compare_σ n) := (inst_ok (fun x e y h => ref04_texts_c n x.1 x.2.1 y h) (SpecOk.none _))
noncomputable def ref04_Compare_Φ (n : Nat) : Orc := with_ Try.prog (ref04_Compare_σ n) [] n 0 [1000067, 1000069]
noncomputable def ref04_Compare_v (n : Nat) (b0 : Bool) (j1 : Int) (s2 : ByteArray) (b3 : Bool) (j4 : Int) (s5 : ByteArray) : Option (Int × Unit) :=
  DM.denFn tm (ref04_Compare_Φ n) ref04_Compare_lv n Try.f18 false [AV.agg [AV.dv (DV.val (Value.bool b0)), AV.dv (DV.val (Value.int IntKind.i64 j1)), AV.dv (DV.val (Value.string s2))], AV.agg [AV.dv (DV.val (Value.bool b3)), AV.dv (DV.val (Value.int IntKind.i64 j4)), AV.dv (DV.val (Value.string s5))]] [] (OSh.chk (OSh.plain (.i IntKind.i64) []))
theorem ref04_Compare_e (n : Nat) (b0 : Bool) (j1 : Int) (s2 : ByteArray) (b3 : Bool) (j4 : Int) (s5 : ByteArray) : ref04_Compare_v n b0 j1 s2 b3 j4 s5 =
  bif b0 then
    bif !b3 then
      some (-1, ())
    else bif b3 then
      bif !b0 then
        some (1, ())
      else bif decide (j1 < j4) then
        some (-1, ())
      else bif decide (j1 > j4) then
        some (1, ())
      else obind (ref04_texts_v n s2 s5) fun y6 =>
      some (y6.fst, ())
    else bif decide (j1 < j4) then
      some (-1, ())
    else bif decide (j1 > j4) then
      some (1, ())
    else obind (ref04_texts_v n s2 s5) fun y7 =>
    some (y7.fst, ())
  else bif b3 then
    bif !b0 then
      some (1, ())
    else bif decide (j1 < j4) then
      some (-1, ())
    else bif decide (j1 > j4) then
      some (1, ())
    else obind (ref04_texts_v n s2 s5) fun y8 =>
    some (y8.fst, ())
  else bif decide (j1 < j4) then
    some (-1, ())
  else bif decide (j1 > j4) then
    some (1, ())
  else obind (ref04_texts_v n s2 s5) fun y9 =>
  some (y9.fst, ()) := by kernel_rfl
theorem ref04_Compare_c (n : Nat) (b0 : Bool) (j1 : Int) (s2 : ByteArray) (b3 : Bool) (j4 : Int) (s5 : ByteArray) (y : Int × Unit) (h : ref04_Compare_v n b0 j1 s2 b3 j4 s5 = some y) : Contract Try.prog 18 [AV.agg [AV.dv (DV.val (Value.bool b0)), AV.dv (DV.val (Value.int IntKind.i64 j1)), AV.dv (DV.val (Value.string s2))], AV.agg [AV.dv (DV.val (Value.bool b3)), AV.dv (DV.val (Value.int IntKind.i64 j4)), AV.dv (DV.val (Value.string s5))]] [] (OSh.enc (OSh.plain (.i IntKind.i64) []) y) :=
  auto_okM tm_std (with_ok mixed (by kernel_rfl) (ref04_Compare_σok n) n 0 [1000067, 1000069]) (with_pick mixed (by kernel_rfl) (ref04_Compare_σok n) n 0 [1000067, 1000069]) mixed Try.func18 (by decide) (o := (OSh.plain (.i IntKind.i64) [])) h
/-! law04_num: function 28 -/
def law04_num_lv : Live := []
noncomputable def law04_num_σ (n : Nat) : Spec := Spec.none
theorem law04_num_σok (n : Nat) : SpecOk Try.prog (law04_num_σ n) := (SpecOk.none _)
noncomputable def law04_num_Φ (n : Nat) : Orc := with_ Try.prog (law04_num_σ n) [] n 0 [1000067, 1000069]
noncomputable def law04_num_v (n : Nat) (j0 : Int) : Option ((Bool × Int × ByteArray × Unit) × Unit) :=
  DM.denFn tm (law04_num_Φ n) law04_num_lv n Try.f28 false [AV.dv (DV.val (Value.int IntKind.i64 j0))] [] (OSh.chk (OSh.plain (.agg [.b, .i IntKind.i64, .s]) []))
theorem law04_num_e (n : Nat) (j0 : Int) : law04_num_v n j0 =
  some ((true, (j0, (ByteArray.mk #[], ()))), ()) := by kernel_rfl
theorem law04_num_c (n : Nat) (j0 : Int) (y : (Bool × Int × ByteArray × Unit) × Unit) (h : law04_num_v n j0 = some y) : Contract Try.prog 28 [AV.dv (DV.val (Value.int IntKind.i64 j0))] [] (OSh.enc (OSh.plain (.agg [.b, .i IntKind.i64, .s]) []) y) :=
  auto_okM tm_std (with_ok mixed (by kernel_rfl) (law04_num_σok n) n 0 [1000067, 1000069]) (with_pick mixed (by kernel_rfl) (law04_num_σok n) n 0 [1000067, 1000069]) mixed Try.func28 (by decide) (o := (OSh.plain (.agg [.b, .i IntKind.i64, .s]) [])) h
/-! slices_Clone: function 65 -/
def slices_Clone_lv : Live := []
noncomputable def slices_Clone_σ (n : Nat) : Spec := Spec.none
theorem slices_Clone_σok (n : Nat) : SpecOk Try.prog (slices_Clone_σ n) := (SpecOk.none _)
noncomputable def slices_Clone_Φ (n : Nat) : Orc := with_ Try.prog (slices_Clone_σ n) [] n 0 [1000067, 1000069]
noncomputable def slices_Clone_v (n : Nat) (b0 : Bool) (r1 : Rows) : Option ((Bool × Rows) × Unit) :=
  DM.denFn tm (slices_Clone_Φ n) slices_Clone_lv n Try.f65 true [AV.sl b0 [Kd.b, Kd.i IntKind.i64, Kd.s] r1 Right.no] [] (OSh.chk (OSh.plain (.slt [Kd.b, Kd.i IntKind.i64, Kd.s] 0) []))
theorem slices_Clone_e (n : Nat) (b0 : Bool) (r1 : Rows) : slices_Clone_v n b0 r1 =
  bif b0 then
    some ((true, []), ())
  else if (0 + List.length r1) * 32 ≤ 140737488355328 then
    some ((false && List.isEmpty r1, appX [] r1), ())
  else none := by kernel_rfl
theorem slices_Clone_c (n : Nat) (b0 : Bool) (r1 : Rows) (y : (Bool × Rows) × Unit) (h : slices_Clone_v n b0 r1 = some y) : Contract Try.prog 65 [AV.sl b0 [Kd.b, Kd.i IntKind.i64, Kd.s] r1 Right.no] [] (OSh.enc (OSh.plain (.slt [Kd.b, Kd.i IntKind.i64, Kd.s] 0) []) y) :=
  auto_okM tm_std (with_ok mixed (by kernel_rfl) (slices_Clone_σok n) n 0 [1000067, 1000069]) (with_pick mixed (by kernel_rfl) (slices_Clone_σok n) n 0 [1000067, 1000069]) mixed Try.func65 (by decide) (o := (OSh.plain (.slt [Kd.b, Kd.i IntKind.i64, Kd.s] 0) [])) h
/-! fact_Own: function 27 -/
def fact_Own_lv : Live := []
noncomputable def fact_Own_σ (n : Nat) : Spec := (inst 65 [.sl [Kd.b, Kd.i IntKind.i64, Kd.s]] [] (OSh.plain (.slt [Kd.b, Kd.i IntKind.i64, Kd.s] 0) []) (fun x e => slices_Clone_v n x.1.1 x.1.2) Spec.none)
theorem fact_Own_σok (n : Nat) : SpecOk Try.prog (fact_Own_σ n) := (inst_ok (fun x e y h => slices_Clone_c n x.1.1 x.1.2 y h) (SpecOk.none _))
noncomputable def fact_Own_Φ (n : Nat) : Orc := with_ Try.prog (fact_Own_σ n) [] n 0 [1000067, 1000069]
noncomputable def fact_Own_v (n : Nat) (s0 : ByteArray) (s1 : ByteArray) (b2 : Bool) (r3 : Rows) : Option ((ByteArray × ByteArray × ByteArray × (Bool × Rows) × Unit) × Unit) :=
  DM.denFn tm (fact_Own_Φ n) fact_Own_lv n Try.f27 true [AV.dv (DV.val (Value.string s0)), AV.dv (DV.val (Value.string s1)), AV.sl b2 [Kd.b, Kd.i IntKind.i64, Kd.s] r3 Right.no] [] (OSh.chk (OSh.plain (.agg [.s, .s, .s, .slt [Kd.b, Kd.i IntKind.i64, Kd.s] 3]) []))
theorem fact_Own_e (n : Nat) (s0 : ByteArray) (s1 : ByteArray) (b2 : Bool) (r3 : Rows) : fact_Own_v n s0 s1 b2 r3 =
  obind (slices_Clone_v n b2 r3) fun y4 =>
  some ((s0, (s0, (s1, ((y4.fst.fst, y4.fst.snd), ())))), ()) := by kernel_rfl
theorem fact_Own_c (n : Nat) (s0 : ByteArray) (s1 : ByteArray) (b2 : Bool) (r3 : Rows) (y : (ByteArray × ByteArray × ByteArray × (Bool × Rows) × Unit) × Unit) (h : fact_Own_v n s0 s1 b2 r3 = some y) : Contract Try.prog 27 [AV.dv (DV.val (Value.string s0)), AV.dv (DV.val (Value.string s1)), AV.sl b2 [Kd.b, Kd.i IntKind.i64, Kd.s] r3 Right.no] [] (OSh.enc (OSh.plain (.agg [.s, .s, .s, .slt [Kd.b, Kd.i IntKind.i64, Kd.s] 3]) []) y) :=
  auto_okM tm_std (with_ok mixed (by kernel_rfl) (fact_Own_σok n) n 0 [1000067, 1000069]) (with_pick mixed (by kernel_rfl) (fact_Own_σok n) n 0 [1000067, 1000069]) mixed Try.func27 (by decide) (o := (OSh.plain (.agg [.s, .s, .s, .slt [Kd.b, Kd.i IntKind.i64, Kd.s] 3]) [])) h
/-! slices_CompareFunc: function 64 -/
def slices_CompareFunc_fact_Compare_lv : Live := [(2, [0, 1, 2, 11, 12, 13], [1000, 1001, 1002, 1003])]
noncomputable def slices_CompareFunc_fact_Compare_σ (n : Nat) : Spec := (inst 17 [.agg [.b, .i IntKind.i64, .s], .agg [.b, .i IntKind.i64, .s]] [] (OSh.plain (.i IntKind.i64) []) (fun x e => fact_Compare_v n x.1.1 x.1.2.1 x.1.2.2.1 x.2.1.1 x.2.1.2.1 x.2.1.2.2.1) Spec.none)
theorem slices_CompareFunc_fact_Compare_σok (n : Nat) : SpecOk Try.prog (slices_CompareFunc_fact_Compare_σ n) := (inst_ok (fun x e y h => fact_Compare_c n x.1.1 x.1.2.1 x.1.2.2.1 x.2.1.1 x.2.1.2.1 x.2.1.2.2.1 y h) (SpecOk.none _))
noncomputable def slices_CompareFunc_fact_Compare_Φ (n : Nat) : Orc := with_ Try.prog (slices_CompareFunc_fact_Compare_σ n) [] n 0 [1000067, 1000069]
noncomputable def slices_CompareFunc_fact_Compare_v (n : Nat) (b0 : Bool) (r1 : Rows) (b2 : Bool) (r3 : Rows) : Option (Int × Unit) :=
  DM.denFn tm (slices_CompareFunc_fact_Compare_Φ n) slices_CompareFunc_fact_Compare_lv n Try.f64 false [AV.sl b0 [Kd.b, Kd.i IntKind.i64, Kd.s] r1 Right.no, AV.sl b2 [Kd.b, Kd.i IntKind.i64, Kd.s] r3 Right.no, AV.fn 17 []] [] (OSh.chk (OSh.plain (.i IntKind.i64) []))
noncomputable def slices_CompareFunc_fact_Compare_l2 (n : Nat) (b0 : Bool) (r1 : Rows) (b2 : Bool) (r3 : Rows) (i0 : Nat) (j5 : Int) : Option (Int × Unit) :=
  DM.loopFn tm (slices_CompareFunc_fact_Compare_Φ n) slices_CompareFunc_fact_Compare_lv n Try.f64 false [] (OSh.chk (OSh.plain (.i IntKind.i64) [])) 2 [] i0 (St.mk [AV.sl b0 [Kd.b, Kd.i IntKind.i64, Kd.s] r1 Right.no, AV.sl b2 [Kd.b, Kd.i IntKind.i64, Kd.s] r3 Right.no, AV.fn 17 [], AV.junk, AV.junk, AV.junk, AV.junk, AV.junk, AV.junk, AV.junk, AV.junk, AV.sl b0 [Kd.b, Kd.i IntKind.i64, Kd.s] r1 Right.no, AV.dv (DV.val (Value.int IntKind.i64 (↑(List.length r1) : Int))), AV.dv (DV.val (Value.int IntKind.i64 j5)), AV.junk, AV.junk, AV.junk, AV.junk, AV.junk, AV.junk, AV.junk, AV.junk, AV.junk, AV.junk, AV.junk, AV.junk, AV.junk, AV.junk, AV.junk, AV.junk, AV.junk, AV.junk, AV.junk, AV.junk, AV.junk, AV.junk, AV.junk, AV.junk, AV.junk] [])
theorem slices_CompareFunc_fact_Compare_s2 (n : Nat) (b0 : Bool) (r1 : Rows) (b2 : Bool) (r3 : Rows) (i0 : Nat) (j5 : Int) : slices_CompareFunc_fact_Compare_l2 n b0 r1 b2 r3 (i0 + 1) j5 =
  bif decide (j5 < (↑(List.length r1) : Int)) then
    if 0 ≤ j5 then
      if j5 < (↑(List.length r1) : Int) then
        bif decide (j5 ≥ (↑(List.length r3) : Int)) then
          some (1, ())
        else if 0 ≤ j5 then
          if j5 < (↑(List.length r3) : Int) then
            obind (fact_Compare_v n (Row.B (List.getD r1 (Int.toNat j5) []) 0) (Row.I (List.getD r1 (Int.toNat j5) []) 1) (Row.S (List.getD r1 (Int.toNat j5) []) 2) (Row.B (List.getD r3 (Int.toNat j5) []) 0) (Row.I (List.getD r3 (Int.toNat j5) []) 1) (Row.S (List.getD r3 (Int.toNat j5) []) 2)) fun y6 =>
            bif y6.fst != 0 then
              some (y6.fst, ())
            else slices_CompareFunc_fact_Compare_l2 n b0 r1 b2 r3 i0 (IntKind.wrap IntKind.i64 (j5 + 1))
          else none
        else none
      else none
    else none
  else bif decide ((↑(List.length r1) : Int) < (↑(List.length r3) : Int)) then
    some (-1, ())
  else some (0, ()) := by kernel_rfl
theorem slices_CompareFunc_fact_Compare_e (n : Nat) (b0 : Bool) (r1 : Rows) (b2 : Bool) (r3 : Rows) : slices_CompareFunc_fact_Compare_v n b0 r1 b2 r3 =
  slices_CompareFunc_fact_Compare_l2 n b0 r1 b2 r3 n 0 := by kernel_rfl
theorem slices_CompareFunc_fact_Compare_c (n : Nat) (b0 : Bool) (r1 : Rows) (b2 : Bool) (r3 : Rows) (y : Int × Unit) (h : slices_CompareFunc_fact_Compare_v n b0 r1 b2 r3 = some y) : Contract Try.prog 64 [AV.sl b0 [Kd.b, Kd.i IntKind.i64, Kd.s] r1 Right.no, AV.sl b2 [Kd.b, Kd.i IntKind.i64, Kd.s] r3 Right.no, AV.fn 17 []] [] (OSh.enc (OSh.plain (.i IntKind.i64) []) y) :=
  auto_okM tm_std (with_ok mixed (by kernel_rfl) (slices_CompareFunc_fact_Compare_σok n) n 0 [1000067, 1000069]) (with_pick mixed (by kernel_rfl) (slices_CompareFunc_fact_Compare_σok n) n 0 [1000067, 1000069]) mixed Try.func64 (by decide) (o := (OSh.plain (.i IntKind.i64) [])) h
/-! fact_Order: function 20 -/
def fact_Order_lv : Live := []
noncomputable def fact_Order_σ (n : Nat) : Spec := (inst 62 [.s, .s] [] (OSh.plain (.i IntKind.i64) []) (fun x e => cmp_Compare_i2_v n x.1 x.2.1) (inst 64 [.sl [Kd.b, Kd.i IntKind.i64, Kd.s], .sl [Kd.b, Kd.i IntKind.i64, Kd.s], .fn 17 []] [] (OSh.plain (.i IntKind.i64) []) (fun x e => slices_CompareFunc_fact_Compare_v n x.1.1 x.1.2 x.2.1.1 x.2.1.2) (inst 60 [.sl [Kd.i IntKind.i64]] [] (OSh.plain (.i IntKind.i64) []) (fun x e => cmp_Or_v n x.1.1 x.1.2) Spec.none)))
theorem fact_Order_σok (n : Nat) : SpecOk Try.prog (fact_Order_σ n) := (inst_ok (fun x e y h => cmp_Compare_i2_c n x.1 x.2.1 y h) (inst_ok (fun x e y h => slices_CompareFunc_fact_Compare_c n x.1.1 x.1.2 x.2.1.1 x.2.1.2 y h) (inst_ok (fun x e y h => cmp_Or_c n x.1.1 x.1.2 y h) (SpecOk.none _))))
noncomputable def fact_Order_Φ (n : Nat) : Orc := with_ Try.prog (fact_Order_σ n) [] n 0 [1000067, 1000069]
noncomputable def fact_Order_v (n : Nat) (s0 : ByteArray) (s1 : ByteArray) (s2 : ByteArray) (b3 : Bool) (r4 : Rows) (s5 : ByteArray) (s6 : ByteArray) (s7 : ByteArray) (b8 : Bool) (r9 : Rows) : Option (Int × Unit) :=
  DM.denFn tm (fact_Order_Φ n) fact_Order_lv n Try.f20 false [AV.agg [AV.dv (DV.val (Value.string s0)), AV.dv (DV.val (Value.string s1)), AV.dv (DV.val (Value.string s2)), AV.sl b3 [Kd.b, Kd.i IntKind.i64, Kd.s] r4 Right.no], AV.agg [AV.dv (DV.val (Value.string s5)), AV.dv (DV.val (Value.string s6)), AV.dv (DV.val (Value.string s7)), AV.sl b8 [Kd.b, Kd.i IntKind.i64, Kd.s] r9 Right.no]] [] (OSh.chk (OSh.plain (.i IntKind.i64) []))
theorem fact_Order_e (n : Nat) (s0 : ByteArray) (s1 : ByteArray) (s2 : ByteArray) (b3 : Bool) (r4 : Rows) (s5 : ByteArray) (s6 : ByteArray) (s7 : ByteArray) (b8 : Bool) (r9 : Rows) : fact_Order_v n s0 s1 s2 b3 r4 s5 s6 s7 b8 r9 =
  obind (cmp_Compare_i2_v n s0 s5) fun y10 =>
  obind (cmp_Compare_i2_v n s1 s6) fun y11 =>
  obind (cmp_Compare_i2_v n s2 s7) fun y12 =>
  obind (slices_CompareFunc_fact_Compare_v n b3 r4 b8 r9) fun y13 =>
  obind (cmp_Or_v n false ([[DV.val (Value.int IntKind.i64 y10.fst)], [DV.val (Value.int IntKind.i64 y11.fst)], [DV.val (Value.int IntKind.i64 y12.fst)], [DV.val (Value.int IntKind.i64 y13.fst)]])) fun y14 =>
  some (y14.fst, ()) := by kernel_rfl
theorem fact_Order_c (n : Nat) (s0 : ByteArray) (s1 : ByteArray) (s2 : ByteArray) (b3 : Bool) (r4 : Rows) (s5 : ByteArray) (s6 : ByteArray) (s7 : ByteArray) (b8 : Bool) (r9 : Rows) (y : Int × Unit) (h : fact_Order_v n s0 s1 s2 b3 r4 s5 s6 s7 b8 r9 = some y) : Contract Try.prog 20 [AV.agg [AV.dv (DV.val (Value.string s0)), AV.dv (DV.val (Value.string s1)), AV.dv (DV.val (Value.string s2)), AV.sl b3 [Kd.b, Kd.i IntKind.i64, Kd.s] r4 Right.no], AV.agg [AV.dv (DV.val (Value.string s5)), AV.dv (DV.val (Value.string s6)), AV.dv (DV.val (Value.string s7)), AV.sl b8 [Kd.b, Kd.i IntKind.i64, Kd.s] r9 Right.no]] [] (OSh.enc (OSh.plain (.i IntKind.i64) []) y) :=
  auto_okM tm_std (with_ok mixed (by kernel_rfl) (fact_Order_σok n) n 0 [1000067, 1000069]) (with_pick mixed (by kernel_rfl) (fact_Order_σok n) n 0 [1000067, 1000069]) mixed Try.func20 (by decide) (o := (OSh.plain (.i IntKind.i64) [])) h
/-! fact_Sorted_1: function 68 -/
def fact_Sorted_1_lv : Live := []
noncomputable def fact_Sorted_1_σ (n : Nat) : Spec := (inst 20 [.agg [.s, .s, .s, .sl [Kd.b, Kd.i IntKind.i64, Kd.s]], .agg [.s, .s, .s, .sl [Kd.b, Kd.i IntKind.i64, Kd.s]]] [] (OSh.plain (.i IntKind.i64) []) (fun x e => fact_Order_v n x.1.1 x.1.2.1 x.1.2.2.1 x.1.2.2.2.1.1 x.1.2.2.2.1.2 x.2.1.1 x.2.1.2.1 x.2.1.2.2.1 x.2.1.2.2.2.1.1 x.2.1.2.2.2.1.2) Spec.none)
theorem fact_Sorted_1_σok (n : Nat) : SpecOk Try.prog (fact_Sorted_1_σ n) := (inst_ok (fun x e y h => fact_Order_c n x.1.1 x.1.2.1 x.1.2.2.1 x.1.2.2.2.1.1 x.1.2.2.2.1.2 x.2.1.1 x.2.1.2.1 x.2.1.2.2.1 x.2.1.2.2.2.1.1 x.2.1.2.2.2.1.2 y h) (SpecOk.none _))
noncomputable def fact_Sorted_1_Φ (n : Nat) : Orc := with_ Try.prog (fact_Sorted_1_σ n) [] n 0 [1000067, 1000069]
noncomputable def fact_Sorted_1_v (n : Nat) (s0 : ByteArray) (s1 : ByteArray) (s2 : ByteArray) (b3 : Bool) (r4 : Rows) (s5 : ByteArray) (s6 : ByteArray) (s7 : ByteArray) (b8 : Bool) (r9 : Rows) : Option (Bool × Unit) :=
  DM.denFn tm (fact_Sorted_1_Φ n) fact_Sorted_1_lv n Try.f68 false [AV.agg [AV.dv (DV.val (Value.string s0)), AV.dv (DV.val (Value.string s1)), AV.dv (DV.val (Value.string s2)), AV.sl b3 [Kd.b, Kd.i IntKind.i64, Kd.s] r4 Right.no], AV.agg [AV.dv (DV.val (Value.string s5)), AV.dv (DV.val (Value.string s6)), AV.dv (DV.val (Value.string s7)), AV.sl b8 [Kd.b, Kd.i IntKind.i64, Kd.s] r9 Right.no]] [] (OSh.chk (OSh.plain (.b) []))
theorem fact_Sorted_1_e (n : Nat) (s0 : ByteArray) (s1 : ByteArray) (s2 : ByteArray) (b3 : Bool) (r4 : Rows) (s5 : ByteArray) (s6 : ByteArray) (s7 : ByteArray) (b8 : Bool) (r9 : Rows) : fact_Sorted_1_v n s0 s1 s2 b3 r4 s5 s6 s7 b8 r9 =
  obind (fact_Order_v n s0 s1 s2 b3 r4 s5 s6 s7 b8 r9) fun y10 =>
  some (y10.fst == 0, ()) := by kernel_rfl
theorem fact_Sorted_1_c (n : Nat) (s0 : ByteArray) (s1 : ByteArray) (s2 : ByteArray) (b3 : Bool) (r4 : Rows) (s5 : ByteArray) (s6 : ByteArray) (s7 : ByteArray) (b8 : Bool) (r9 : Rows) (y : Bool × Unit) (h : fact_Sorted_1_v n s0 s1 s2 b3 r4 s5 s6 s7 b8 r9 = some y) : Contract Try.prog 68 [AV.agg [AV.dv (DV.val (Value.string s0)), AV.dv (DV.val (Value.string s1)), AV.dv (DV.val (Value.string s2)), AV.sl b3 [Kd.b, Kd.i IntKind.i64, Kd.s] r4 Right.no], AV.agg [AV.dv (DV.val (Value.string s5)), AV.dv (DV.val (Value.string s6)), AV.dv (DV.val (Value.string s7)), AV.sl b8 [Kd.b, Kd.i IntKind.i64, Kd.s] r9 Right.no]] [] (OSh.enc (OSh.plain (.b) []) y) :=
  auto_okM tm_std (with_ok mixed (by kernel_rfl) (fact_Sorted_1_σok n) n 0 [1000067, 1000069]) (with_pick mixed (by kernel_rfl) (fact_Sorted_1_σok n) n 0 [1000067, 1000069]) mixed Try.func68 (by decide) (o := (OSh.plain (.b) [])) h
/-! slices_CompactFunc: function 67 -/
def slices_CompactFunc_fact_Sorted_1_lv : Live := [(4, [0, 1, 5], [1000, 1001, 1002, 1003]), (9, [0, 1, 5, 6, 7], [1000, 1001, 1002, 1003])]
noncomputable def slices_CompactFunc_fact_Sorted_1_σ (n : Nat) : Spec := (inst 68 [.agg [.s, .s, .s, .sl [Kd.b, Kd.i IntKind.i64, Kd.s]], .agg [.s, .s, .s, .sl [Kd.b, Kd.i IntKind.i64, Kd.s]]] [] (OSh.plain (.b) []) (fun x e => fact_Sorted_1_v n x.1.1 x.1.2.1 x.1.2.2.1 x.1.2.2.2.1.1 x.1.2.2.2.1.2 x.2.1.1 x.2.1.2.1 x.2.1.2.2.1 x.2.1.2.2.2.1.1 x.2.1.2.2.2.1.2) Spec.none)
theorem slices_CompactFunc_fact_Sorted_1_σok (n : Nat) : SpecOk Try.prog (slices_CompactFunc_fact_Sorted_1_σ n) := (inst_ok (fun x e y h => fact_Sorted_1_c n x.1.1 x.1.2.1 x.1.2.2.1 x.1.2.2.2.1.1 x.1.2.2.2.1.2 x.2.1.1 x.2.1.2.1 x.2.1.2.2.1 x.2.1.2.2.2.1.1 x.2.1.2.2.2.1.2 y h) (SpecOk.none _))
noncomputable def slices_CompactFunc_fact_Sorted_1_Φ (n : Nat) : Orc := with_ Try.prog (slices_CompactFunc_fact_Sorted_1_σ n) [] n 0 [1000067, 1000069]
noncomputable def slices_CompactFunc_fact_Sorted_1_v (n : Nat) (b0 : Bool) (r1 : Rows) : Option ((Bool × Rows) × Unit) :=
  DM.denFn tm (slices_CompactFunc_fact_Sorted_1_Φ n) slices_CompactFunc_fact_Sorted_1_lv n Try.f67 true [AV.sl b0 [Kd.s, Kd.s, Kd.s, Kd.sl [Kd.b, Kd.i IntKind.i64, Kd.s]] r1 (Right.tok 500000), AV.fn 68 []] [] (OSh.chk (OSh.plain (.slt [Kd.s, Kd.s, Kd.s, Kd.sl [Kd.b, Kd.i IntKind.i64, Kd.s]] 0) []))
noncomputable def slices_CompactFunc_fact_Sorted_1_l4 (n : Nat) (b0 : Bool) (r1 : Rows) (i0 : Nat) (j3 : Int) : Option ((Bool × Rows) × Unit) :=
  DM.loopFn tm (slices_CompactFunc_fact_Sorted_1_Φ n) slices_CompactFunc_fact_Sorted_1_lv n Try.f67 true [] (OSh.chk (OSh.plain (.slt [Kd.s, Kd.s, Kd.s, Kd.sl [Kd.b, Kd.i IntKind.i64, Kd.s]] 0) [])) 4 [] i0 (St.mk [AV.sl b0 [Kd.s, Kd.s, Kd.s, Kd.sl [Kd.b, Kd.i IntKind.i64, Kd.s]] r1 (Right.tok 0), AV.fn 68 [], AV.junk, AV.junk, AV.junk, AV.dv (DV.val (Value.int IntKind.i64 j3)), AV.junk, AV.junk, AV.junk, AV.junk, AV.junk, AV.junk, AV.junk, AV.junk, AV.junk, AV.junk, AV.junk, AV.junk, AV.junk, AV.junk, AV.junk, AV.junk, AV.junk, AV.junk, AV.junk, AV.junk, AV.junk, AV.junk, AV.junk, AV.junk, AV.junk, AV.junk, AV.junk, AV.junk, AV.junk, AV.junk, AV.junk, AV.junk, AV.junk, AV.junk, AV.junk, AV.junk, AV.junk, AV.junk, AV.junk, AV.junk, AV.junk, AV.junk, AV.junk, AV.junk, AV.junk, AV.junk, AV.junk, AV.junk, AV.junk, AV.junk, AV.junk, AV.junk, AV.junk, AV.junk, AV.junk, AV.junk, AV.junk, AV.junk, AV.junk, AV.junk] [])
noncomputable def slices_CompactFunc_fact_Sorted_1_l9 (n : Nat) (b0 : Bool) (r1 : Rows) (i0 i1 : Nat) (j5 : Int) (r6 : List (List DV)) (j8 : Int) : Option ((Bool × Rows) × Unit) :=
  DM.loopFn tm (slices_CompactFunc_fact_Sorted_1_Φ n) slices_CompactFunc_fact_Sorted_1_lv n Try.f67 true [] (OSh.chk (OSh.plain (.slt [Kd.s, Kd.s, Kd.s, Kd.sl [Kd.b, Kd.i IntKind.i64, Kd.s]] 0) [])) 9 [i0] i1 (St.mk [AV.sl b0 [Kd.s, Kd.s, Kd.s, Kd.sl [Kd.b, Kd.i IntKind.i64, Kd.s]] r1 (Right.tok 0), AV.fn 68 [], AV.junk, AV.junk, AV.junk, AV.dv (DV.val (Value.int IntKind.i64 j5)), AV.sl b0 [Kd.s, Kd.s, Kd.s, Kd.sl [Kd.b, Kd.i IntKind.i64, Kd.s]] r6 Right.no, AV.dv (DV.val (Value.int IntKind.i64 j8)), AV.junk, AV.junk, AV.junk, AV.junk, AV.junk, AV.junk, AV.junk, AV.junk, AV.junk, AV.junk, AV.junk, AV.junk, AV.junk, AV.junk, AV.junk, AV.junk, AV.junk, AV.junk, AV.junk, AV.junk, AV.junk, AV.junk, AV.junk, AV.junk, AV.junk, AV.junk, AV.junk, AV.junk, AV.junk, AV.junk, AV.junk, AV.junk, AV.junk, AV.junk, AV.junk, AV.junk, AV.junk, AV.junk, AV.junk, AV.junk, AV.junk, AV.junk, AV.junk, AV.junk, AV.junk, AV.junk, AV.junk, AV.junk, AV.junk, AV.junk, AV.junk, AV.junk, AV.junk, AV.junk, AV.junk, AV.junk, AV.junk, AV.junk] [])
theorem slices_CompactFunc_fact_Sorted_1_s4 (n : Nat) (b0 : Bool) (r1 : Rows) (i0 : Nat) (j3 : Int) : slices_CompactFunc_fact_Sorted_1_l4 n b0 r1 (i0 + 1) j3 =
  bif decide (j3 < (↑(List.length r1) : Int)) then
    if 0 ≤ j3 then
      if j3 < (↑(List.length r1) : Int) then
        if 0 ≤ IntKind.wrap IntKind.i64 (j3 - 1) then
          if IntKind.wrap IntKind.i64 (j3 - 1) < (↑(List.length r1) : Int) then
            obind (fact_Sorted_1_v n (Row.S (List.getD r1 (Int.toNat j3) []) 0) (Row.S (List.getD r1 (Int.toNat j3) []) 1) (Row.S (List.getD r1 (Int.toNat j3) []) 2) (Row.N (List.getD r1 (Int.toNat j3) []) 3) (Row.R (List.getD r1 (Int.toNat j3) []) 3) (Row.S (List.getD r1 (Int.toNat (IntKind.wrap IntKind.i64 (j3 - 1))) []) 0) (Row.S (List.getD r1 (Int.toNat (IntKind.wrap IntKind.i64 (j3 - 1))) []) 1) (Row.S (List.getD r1 (Int.toNat (IntKind.wrap IntKind.i64 (j3 - 1))) []) 2) (Row.N (List.getD r1 (Int.toNat (IntKind.wrap IntKind.i64 (j3 - 1))) []) 3) (Row.R (List.getD r1 (Int.toNat (IntKind.wrap IntKind.i64 (j3 - 1))) []) 3)) fun y4 =>
            bif y4.fst then
              if 0 ≤ j3 then
                if j3 ≤ (↑(List.length r1) : Int) then
                  if (↑(List.length r1) : Int) ≤ (↑(List.length r1) : Int) then
                    slices_CompactFunc_fact_Sorted_1_l9 n b0 r1 i0 n j3 (List.drop (Int.toNat j3) (List.take (Int.toNat (↑(List.length r1) : Int)) r1)) 1
                  else none
                else none
              else none
            else slices_CompactFunc_fact_Sorted_1_l4 n b0 r1 i0 (IntKind.wrap IntKind.i64 (j3 + 1))
          else none
        else none
      else none
    else none
  else some ((b0, r1), ()) := by kernel_rfl
theorem slices_CompactFunc_fact_Sorted_1_s9 (n : Nat) (b0 : Bool) (r1 : Rows) (i0 i1 : Nat) (j5 : Int) (r6 : List (List DV)) (j8 : Int) : slices_CompactFunc_fact_Sorted_1_l9 n b0 r1 i0 (i1 + 1) j5 r6 j8 =
  bif decide (j8 < (↑(List.length r6) : Int)) then
    if 0 ≤ j8 then
      if j8 < (↑(List.length r6) : Int) then
        if 0 ≤ IntKind.wrap IntKind.i64 (j8 - 1) then
          if IntKind.wrap IntKind.i64 (j8 - 1) < (↑(List.length r6) : Int) then
            obind (fact_Sorted_1_v n (Row.S (List.getD r6 (Int.toNat j8) []) 0) (Row.S (List.getD r6 (Int.toNat j8) []) 1) (Row.S (List.getD r6 (Int.toNat j8) []) 2) (Row.N (List.getD r6 (Int.toNat j8) []) 3) (Row.R (List.getD r6 (Int.toNat j8) []) 3) (Row.S (List.getD r6 (Int.toNat (IntKind.wrap IntKind.i64 (j8 - 1))) []) 0) (Row.S (List.getD r6 (Int.toNat (IntKind.wrap IntKind.i64 (j8 - 1))) []) 1) (Row.S (List.getD r6 (Int.toNat (IntKind.wrap IntKind.i64 (j8 - 1))) []) 2) (Row.N (List.getD r6 (Int.toNat (IntKind.wrap IntKind.i64 (j8 - 1))) []) 3) (Row.R (List.getD r6 (Int.toNat (IntKind.wrap IntKind.i64 (j8 - 1))) []) 3)) fun y9 =>
            bif !y9.fst then
              if 0 ≤ j8 then
                if j8 < (↑(List.length r6) : Int) then
                  if 0 ≤ j5 then
                    if j5 < (↑(List.length r1) : Int) then
                      none
                    else none
                  else none
                else none
              else none
            else slices_CompactFunc_fact_Sorted_1_l9 n b0 r1 i0 i1 j5 r6 (IntKind.wrap IntKind.i64 (j8 + 1))
          else none
        else none
      else none
    else none
  else if 0 ≤ j5 then
    if j5 ≤ (↑(List.length r1) : Int) then
      if (↑(List.length r1) : Int) ≤ (↑(List.length r1) : Int) then
        none
      else none
    else none
  else none := by kernel_rfl
theorem slices_CompactFunc_fact_Sorted_1_e (n : Nat) (b0 : Bool) (r1 : Rows) : slices_CompactFunc_fact_Sorted_1_v n b0 r1 =
  bif decide ((↑(List.length r1) : Int) < 2) then
    some ((b0, r1), ())
  else slices_CompactFunc_fact_Sorted_1_l4 n b0 r1 n 1 := by kernel_rfl
theorem slices_CompactFunc_fact_Sorted_1_c (n : Nat) (b0 : Bool) (r1 : Rows) (y : (Bool × Rows) × Unit) (h : slices_CompactFunc_fact_Sorted_1_v n b0 r1 = some y) : Contract Try.prog 67 [AV.sl b0 [Kd.s, Kd.s, Kd.s, Kd.sl [Kd.b, Kd.i IntKind.i64, Kd.s]] r1 (Right.tok 500000), AV.fn 68 []] [] (OSh.enc (OSh.plain (.slt [Kd.s, Kd.s, Kd.s, Kd.sl [Kd.b, Kd.i IntKind.i64, Kd.s]] 0) []) y) :=
  auto_okM tm_std (with_ok mixed (by kernel_rfl) (slices_CompactFunc_fact_Sorted_1_σok n) n 0 [1000067, 1000069]) (with_pick mixed (by kernel_rfl) (slices_CompactFunc_fact_Sorted_1_σok n) n 0 [1000067, 1000069]) mixed Try.func67 (by decide) (o := (OSh.plain (.slt [Kd.s, Kd.s, Kd.s, Kd.sl [Kd.b, Kd.i IntKind.i64, Kd.s]] 0) [])) h
/-! slices_CompactFunc: function 67 -/
def slices_CompactFunc_mz_fact_Sorted_1_lv : Live := [(4, [0, 1, 5], [1000, 1001, 1002, 1003]), (9, [0, 1, 5, 6, 7], [1000, 1001, 1002, 1003])]
noncomputable def slices_CompactFunc_mz_fact_Sorted_1_σ (n : Nat) : Spec := (inst 68 [.agg [.s, .s, .s, .sl [Kd.b, Kd.i IntKind.i64, Kd.s]], .agg [.s, .s, .s, .sl [Kd.b, Kd.i IntKind.i64, Kd.s]]] [] (OSh.plain (.b) []) (fun x e => fact_Sorted_1_v n x.1.1 x.1.2.1 x.1.2.2.1 x.1.2.2.2.1.1 x.1.2.2.2.1.2 x.2.1.1 x.2.1.2.1 x.2.1.2.2.1 x.2.1.2.2.2.1.1 x.2.1.2.2.2.1.2) Spec.none)
theorem slices_CompactFunc_mz_fact_Sorted_1_σok (n : Nat) : SpecOk Try.prog (slices_CompactFunc_mz_fact_Sorted_1_σ n) := (inst_ok (fun x e y h => fact_Sorted_1_c n x.1.1 x.1.2.1 x.1.2.2.1 x.1.2.2.2.1.1 x.1.2.2.2.1.2 x.2.1.1 x.2.1.2.1 x.2.1.2.2.1 x.2.1.2.2.2.1.1 x.2.1.2.2.2.1.2 y h) (SpecOk.none _))
noncomputable def slices_CompactFunc_mz_fact_Sorted_1_Φ (n : Nat) : Orc := with_ Try.prog (slices_CompactFunc_mz_fact_Sorted_1_σ n) [] n 0 [1000067, 1000069]
noncomputable def slices_CompactFunc_mz_fact_Sorted_1_v (n : Nat) (m0 : Nat) (m1 : Nat) (r2 : Rows) : Option ((Nat × Nat) × (Rows × Unit) × Unit) :=
  DM.denFn tm (slices_CompactFunc_mz_fact_Sorted_1_Φ n) slices_CompactFunc_mz_fact_Sorted_1_lv n Try.f67 false [AV.ms 1000 [Kd.s, Kd.s, Kd.s, Kd.sl [Kd.b, Kd.i IntKind.i64, Kd.s]] 0 m0 m1, AV.fn 68 []] [[AV.arr [Kd.s, Kd.s, Kd.s, Kd.sl [Kd.b, Kd.i IntKind.i64, Kd.s]] r2]] (OSh.chk (OSh.plain (.ms0 1000 [Kd.s, Kd.s, Kd.s, Kd.sl [Kd.b, Kd.i IntKind.i64, Kd.s]]) [[.arr [Kd.s, Kd.s, Kd.s, Kd.sl [Kd.b, Kd.i IntKind.i64, Kd.s]]]]))
noncomputable def slices_CompactFunc_mz_fact_Sorted_1_l4 (n : Nat) (m0 : Nat) (m1 : Nat) (r2 : Rows) (i0 : Nat) (j4 : Int) : Option ((Nat × Nat) × (Rows × Unit) × Unit) :=
  DM.loopFn tm (slices_CompactFunc_mz_fact_Sorted_1_Φ n) slices_CompactFunc_mz_fact_Sorted_1_lv n Try.f67 false [[AV.arr [Kd.s, Kd.s, Kd.s, Kd.sl [Kd.b, Kd.i IntKind.i64, Kd.s]] r2]] (OSh.chk (OSh.plain (.ms0 1000 [Kd.s, Kd.s, Kd.s, Kd.sl [Kd.b, Kd.i IntKind.i64, Kd.s]]) [[.arr [Kd.s, Kd.s, Kd.s, Kd.sl [Kd.b, Kd.i IntKind.i64, Kd.s]]]])) 4 [] i0 (St.mk [AV.ms 1000 [Kd.s, Kd.s, Kd.s, Kd.sl [Kd.b, Kd.i IntKind.i64, Kd.s]] 0 m0 m1, AV.fn 68 [], AV.junk, AV.junk, AV.junk, AV.dv (DV.val (Value.int IntKind.i64 j4)), AV.junk, AV.junk, AV.junk, AV.junk, AV.junk, AV.junk, AV.junk, AV.junk, AV.junk, AV.junk, AV.junk, AV.junk, AV.junk, AV.junk, AV.junk, AV.junk, AV.junk, AV.junk, AV.junk, AV.junk, AV.junk, AV.junk, AV.junk, AV.junk, AV.junk, AV.junk, AV.junk, AV.junk, AV.junk, AV.junk, AV.junk, AV.junk, AV.junk, AV.junk, AV.junk, AV.junk, AV.junk, AV.junk, AV.junk, AV.junk, AV.junk, AV.junk, AV.junk, AV.junk, AV.junk, AV.junk, AV.junk, AV.junk, AV.junk, AV.junk, AV.junk, AV.junk, AV.junk, AV.junk, AV.junk, AV.junk, AV.junk, AV.junk, AV.junk, AV.junk] [(1000, [AV.arr [Kd.s, Kd.s, Kd.s, Kd.sl [Kd.b, Kd.i IntKind.i64, Kd.s]] r2])])
noncomputable def slices_CompactFunc_mz_fact_Sorted_1_l9 (n : Nat) (m0 : Nat) (m1 : Nat) (r2 : Rows) (i0 i1 : Nat) (j6 : Int) (m7 : Nat) (m8 : Nat) (m9 : Nat) (j11 : Int) (r12 : List (List DV)) : Option ((Nat × Nat) × (Rows × Unit) × Unit) :=
  DM.loopFn tm (slices_CompactFunc_mz_fact_Sorted_1_Φ n) slices_CompactFunc_mz_fact_Sorted_1_lv n Try.f67 false [[AV.arr [Kd.s, Kd.s, Kd.s, Kd.sl [Kd.b, Kd.i IntKind.i64, Kd.s]] r2]] (OSh.chk (OSh.plain (.ms0 1000 [Kd.s, Kd.s, Kd.s, Kd.sl [Kd.b, Kd.i IntKind.i64, Kd.s]]) [[.arr [Kd.s, Kd.s, Kd.s, Kd.sl [Kd.b, Kd.i IntKind.i64, Kd.s]]]])) 9 [i0] i1 (St.mk [AV.ms 1000 [Kd.s, Kd.s, Kd.s, Kd.sl [Kd.b, Kd.i IntKind.i64, Kd.s]] 0 m0 m1, AV.fn 68 [], AV.junk, AV.junk, AV.junk, AV.dv (DV.val (Value.int IntKind.i64 j6)), AV.ms 1000 [Kd.s, Kd.s, Kd.s, Kd.sl [Kd.b, Kd.i IntKind.i64, Kd.s]] m7 m8 m9, AV.dv (DV.val (Value.int IntKind.i64 j11)), AV.junk, AV.junk, AV.junk, AV.junk, AV.junk, AV.junk, AV.junk, AV.junk, AV.junk, AV.junk, AV.junk, AV.junk, AV.junk, AV.junk, AV.junk, AV.junk, AV.junk, AV.junk, AV.junk, AV.junk, AV.junk, AV.junk, AV.junk, AV.junk, AV.junk, AV.junk, AV.junk, AV.junk, AV.junk, AV.junk, AV.junk, AV.junk, AV.junk, AV.junk, AV.junk, AV.junk, AV.junk, AV.junk, AV.junk, AV.junk, AV.junk, AV.junk, AV.junk, AV.junk, AV.junk, AV.junk, AV.junk, AV.junk, AV.junk, AV.junk, AV.junk, AV.junk, AV.junk, AV.junk, AV.junk, AV.junk, AV.junk, AV.junk] [(1000, [AV.arr [Kd.s, Kd.s, Kd.s, Kd.sl [Kd.b, Kd.i IntKind.i64, Kd.s]] r12])])
theorem slices_CompactFunc_mz_fact_Sorted_1_s4 (n : Nat) (m0 : Nat) (m1 : Nat) (r2 : Rows) (i0 : Nat) (j4 : Int) : slices_CompactFunc_mz_fact_Sorted_1_l4 n m0 m1 r2 (i0 + 1) j4 =
  bif decide (j4 < (↑m0 : Int)) then
    if 0 ≤ j4 then
      if j4 < (↑m0 : Int) then
        if 0 + Int.toNat j4 < List.length r2 then
          if 0 ≤ IntKind.wrap IntKind.i64 (j4 - 1) then
            if IntKind.wrap IntKind.i64 (j4 - 1) < (↑m0 : Int) then
              if 0 + Int.toNat (IntKind.wrap IntKind.i64 (j4 - 1)) < List.length r2 then
                obind (fact_Sorted_1_v n (Row.S (List.getD r2 (0 + Int.toNat j4) []) 0) (Row.S (List.getD r2 (0 + Int.toNat j4) []) 1) (Row.S (List.getD r2 (0 + Int.toNat j4) []) 2) (Row.N (List.getD r2 (0 + Int.toNat j4) []) 3) (Row.R (List.getD r2 (0 + Int.toNat j4) []) 3) (Row.S (List.getD r2 (0 + Int.toNat (IntKind.wrap IntKind.i64 (j4 - 1))) []) 0) (Row.S (List.getD r2 (0 + Int.toNat (IntKind.wrap IntKind.i64 (j4 - 1))) []) 1) (Row.S (List.getD r2 (0 + Int.toNat (IntKind.wrap IntKind.i64 (j4 - 1))) []) 2) (Row.N (List.getD r2 (0 + Int.toNat (IntKind.wrap IntKind.i64 (j4 - 1))) []) 3) (Row.R (List.getD r2 (0 + Int.toNat (IntKind.wrap IntKind.i64 (j4 - 1))) []) 3)) fun y5 =>
                bif y5.fst then
                  if 0 ≤ j4 then
                    if j4 ≤ (↑m0 : Int) then
                      if (↑m0 : Int) ≤ (↑m1 : Int) then
                        slices_CompactFunc_mz_fact_Sorted_1_l9 n m0 m1 r2 i0 n j4 (0 + Int.toNat j4) (Int.toNat (↑m0 : Int) - Int.toNat j4) (m1 - Int.toNat j4) 1 r2
                      else none
                    else none
                  else none
                else slices_CompactFunc_mz_fact_Sorted_1_l4 n m0 m1 r2 i0 (IntKind.wrap IntKind.i64 (j4 + 1))
              else none
            else none
          else none
        else none
      else none
    else none
  else some ((m0, m1), ((r2, ()), ())) := by kernel_rfl
theorem slices_CompactFunc_mz_fact_Sorted_1_s9 (n : Nat) (m0 : Nat) (m1 : Nat) (r2 : Rows) (i0 i1 : Nat) (j6 : Int) (m7 : Nat) (m8 : Nat) (m9 : Nat) (j11 : Int) (r12 : List (List DV)) : slices_CompactFunc_mz_fact_Sorted_1_l9 n m0 m1 r2 i0 (i1 + 1) j6 m7 m8 m9 j11 r12 =
  bif decide (j11 < (↑m8 : Int)) then
    if 0 ≤ j11 then
      if j11 < (↑m8 : Int) then
        if m7 + Int.toNat j11 < List.length r12 then
          if 0 ≤ IntKind.wrap IntKind.i64 (j11 - 1) then
            if IntKind.wrap IntKind.i64 (j11 - 1) < (↑m8 : Int) then
              if m7 + Int.toNat (IntKind.wrap IntKind.i64 (j11 - 1)) < List.length r12 then
                obind (fact_Sorted_1_v n (Row.S (List.getD r12 (m7 + Int.toNat j11) []) 0) (Row.S (List.getD r12 (m7 + Int.toNat j11) []) 1) (Row.S (List.getD r12 (m7 + Int.toNat j11) []) 2) (Row.N (List.getD r12 (m7 + Int.toNat j11) []) 3) (Row.R (List.getD r12 (m7 + Int.toNat j11) []) 3) (Row.S (List.getD r12 (m7 + Int.toNat (IntKind.wrap IntKind.i64 (j11 - 1))) []) 0) (Row.S (List.getD r12 (m7 + Int.toNat (IntKind.wrap IntKind.i64 (j11 - 1))) []) 1) (Row.S (List.getD r12 (m7 + Int.toNat (IntKind.wrap IntKind.i64 (j11 - 1))) []) 2) (Row.N (List.getD r12 (m7 + Int.toNat (IntKind.wrap IntKind.i64 (j11 - 1))) []) 3) (Row.R (List.getD r12 (m7 + Int.toNat (IntKind.wrap IntKind.i64 (j11 - 1))) []) 3)) fun y13 =>
                bif !y13.fst then
                  if 0 ≤ j11 then
                    if j11 < (↑m8 : Int) then
                      if m7 + Int.toNat j11 < List.length r12 then
                        if 0 ≤ j6 then
                          if j6 < (↑m0 : Int) then
                            if 0 + Int.toNat j6 < List.length r12 then
                              slices_CompactFunc_mz_fact_Sorted_1_l9 n m0 m1 r2 i0 i1 (IntKind.wrap IntKind.i64 (j6 + 1)) m7 m8 m9 (IntKind.wrap IntKind.i64 (j11 + 1)) (List.set r12 (0 + Int.toNat j6) (DV.val (Value.string (Row.S (List.getD r12 (m7 + Int.toNat j11) []) 0)) :: DV.val (Value.string (Row.S (List.getD r12 (m7 + Int.toNat j11) []) 1)) :: DV.val (Value.string (Row.S (List.getD r12 (m7 + Int.toNat j11) []) 2)) :: DV.sl (Row.N (List.getD r12 (m7 + Int.toNat j11) []) 3) [Kd.b, Kd.i IntKind.i64, Kd.s] (Row.R (List.getD r12 (m7 + Int.toNat j11) []) 3) :: List.drop (0 + List.length [DV.val (Value.string (Row.S (List.getD r12 (m7 + Int.toNat j11) []) 0)), DV.val (Value.string (Row.S (List.getD r12 (m7 + Int.toNat j11) []) 1)), DV.val (Value.string (Row.S (List.getD r12 (m7 + Int.toNat j11) []) 2)), DV.sl (Row.N (List.getD r12 (m7 + Int.toNat j11) []) 3) [Kd.b, Kd.i IntKind.i64, Kd.s] (Row.R (List.getD r12 (m7 + Int.toNat j11) []) 3)]) (List.getD r12 (0 + Int.toNat j6) [])))
                            else none
                          else none
                        else none
                      else none
                    else none
                  else none
                else slices_CompactFunc_mz_fact_Sorted_1_l9 n m0 m1 r2 i0 i1 j6 m7 m8 m9 (IntKind.wrap IntKind.i64 (j11 + 1)) r12
              else none
            else none
          else none
        else none
      else none
    else none
  else if 0 ≤ j6 then
    if j6 ≤ (↑m0 : Int) then
      if (↑m0 : Int) ≤ (↑m1 : Int) then
        if 0 + Int.toNat j6 + (Int.toNat (↑m0 : Int) - Int.toNat j6) ≤ List.length r12 then
          if 0 ≤ j6 then
            if j6 ≤ (↑m1 : Int) then
              some ((Int.toNat j6 - 0, m1 - 0), ((List.take (0 + Int.toNat j6) r12 ++ List.replicate (Int.toNat (↑m0 : Int) - Int.toNat j6) [DV.val (Value.string (ByteArray.mk #[])), DV.val (Value.string (ByteArray.mk #[])), DV.val (Value.string (ByteArray.mk #[])), DV.sl true [Kd.b, Kd.i IntKind.i64, Kd.s] []] ++ List.drop (0 + Int.toNat j6 + (Int.toNat (↑m0 : Int) - Int.toNat j6)) r12, ()), ()))
            else none
          else none
        else none
      else none
    else none
  else none := by kernel_rfl
theorem slices_CompactFunc_mz_fact_Sorted_1_e (n : Nat) (m0 : Nat) (m1 : Nat) (r2 : Rows) : slices_CompactFunc_mz_fact_Sorted_1_v n m0 m1 r2 =
  bif decide ((↑m0 : Int) < 2) then
    some ((m0, m1), ((r2, ()), ()))
  else slices_CompactFunc_mz_fact_Sorted_1_l4 n m0 m1 r2 n 1 := by kernel_rfl
theorem slices_CompactFunc_mz_fact_Sorted_1_c (n : Nat) (m0 : Nat) (m1 : Nat) (r2 : Rows) (y : (Nat × Nat) × (Rows × Unit) × Unit) (h : slices_CompactFunc_mz_fact_Sorted_1_v n m0 m1 r2 = some y) : Contract Try.prog 67 [AV.ms 1000 [Kd.s, Kd.s, Kd.s, Kd.sl [Kd.b, Kd.i IntKind.i64, Kd.s]] 0 m0 m1, AV.fn 68 []] [[AV.arr [Kd.s, Kd.s, Kd.s, Kd.sl [Kd.b, Kd.i IntKind.i64, Kd.s]] r2]] (OSh.enc (OSh.plain (.ms0 1000 [Kd.s, Kd.s, Kd.s, Kd.sl [Kd.b, Kd.i IntKind.i64, Kd.s]]) [[.arr [Kd.s, Kd.s, Kd.s, Kd.sl [Kd.b, Kd.i IntKind.i64, Kd.s]]]]) y) :=
  auto_okM tm_std (with_ok mixed (by kernel_rfl) (slices_CompactFunc_mz_fact_Sorted_1_σok n) n 0 [1000067, 1000069]) (with_pick mixed (by kernel_rfl) (slices_CompactFunc_mz_fact_Sorted_1_σok n) n 0 [1000067, 1000069]) mixed Try.func67 (by decide) (o := (OSh.plain (.ms0 1000 [Kd.s, Kd.s, Kd.s, Kd.sl [Kd.b, Kd.i IntKind.i64, Kd.s]]) [[.arr [Kd.s, Kd.s, Kd.s, Kd.sl [Kd.b, Kd.i IntKind.i64, Kd.s]]]])) h
end Go.Den
