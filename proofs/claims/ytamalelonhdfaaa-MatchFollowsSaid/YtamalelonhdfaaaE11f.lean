import Derived.Test.YtamalelonhdfaaaE11
set_option linter.unusedVariables false
set_option linter.unusedSimpArgs false
set_option linter.unusedSectionVars false
namespace Go.Den
open Go.Proofs
set_option maxRecDepth 100000
/-! cmp_isNaN: function 51 -/
def cmp_isNaN_lv : Live := []
noncomputable def cmp_isNaN_σ (n : Nat) : Spec := Spec.none
theorem cmp_isNaN_σok (n : Nat) : SpecOk Try.prog (cmp_isNaN_σ n) := (SpecOk.none _)
noncomputable def cmp_isNaN_Φ (n : Nat) : Orc := with_ Try.prog (cmp_isNaN_σ n) [] n 0 []
noncomputable def cmp_isNaN_v (n : Nat) (s0 : ByteArray) : Option (Bool × Unit) :=
  DM.denFn tm (cmp_isNaN_Φ n) cmp_isNaN_lv n Try.f51 false [AV.dv (DV.val (Value.string s0))] [] (OSh.chk (OSh.plain (.b) []))
theorem cmp_isNaN_e (n : Nat) (s0 : ByteArray) : cmp_isNaN_v n s0 =
  some (!s0 == s0, ()) := by kernel_rfl
theorem cmp_isNaN_c (n : Nat) (s0 : ByteArray) (y : Bool × Unit) (h : cmp_isNaN_v n s0 = some y) : Contract Try.prog 51 [AV.dv (DV.val (Value.string s0))] [] (OSh.enc (OSh.plain (.b) []) y) :=
  auto_okM tm_std (with_ok mixed (by kernel_rfl) (cmp_isNaN_σok n) n 0 []) (with_pick mixed (by kernel_rfl) (cmp_isNaN_σok n) n 0 []) mixed Try.func51 (by decide) (o := (OSh.plain (.b) [])) h
/-! cmp_Compare: function 47 -/
def cmp_Compare_lv : Live := []
noncomputable def cmp_Compare_σ (n : Nat) : Spec := (inst 51 [.s] [] (OSh.plain (.b) []) (fun x e => cmp_isNaN_v n x.1) Spec.none)
theorem cmp_Compare_σok (n : Nat) : SpecOk Try.prog (cmp_Compare_σ n) := (inst_ok (fun x e y h => cmp_isNaN_c n x.1 y h) (SpecOk.none _))
noncomputable def cmp_Compare_Φ (n : Nat) : Orc := with_ Try.prog (cmp_Compare_σ n) [] n 0 []
noncomputable def cmp_Compare_v (n : Nat) (s0 : ByteArray) (s1 : ByteArray) : Option (Int × Unit) :=
  DM.denFn tm (cmp_Compare_Φ n) cmp_Compare_lv n Try.f47 false [AV.dv (DV.val (Value.string s0)), AV.dv (DV.val (Value.string s1))] [] (OSh.chk (OSh.plain (.i IntKind.i64) []))
theorem cmp_Compare_e (n : Nat) (s0 : ByteArray) (s1 : ByteArray) : cmp_Compare_v n s0 s1 =
  obind (cmp_isNaN_v n s0) fun y2 =>
  obind (cmp_isNaN_v n s1) fun y3 =>
  bif y2.fst then
    bif y3.fst then
      some (0, ())
    else some (-1, ())
  else bif y3.fst then
    some (1, ())
  else bif Op.bytesLess (ByteArray.toList s0) (ByteArray.toList s1) then
    some (-1, ())
  else bif !(Op.bytesLess (ByteArray.toList s0) (ByteArray.toList s1) || s0 == s1) then
    some (1, ())
  else some (0, ()) := by kernel_rfl
theorem cmp_Compare_c (n : Nat) (s0 : ByteArray) (s1 : ByteArray) (y : Int × Unit) (h : cmp_Compare_v n s0 s1 = some y) : Contract Try.prog 47 [AV.dv (DV.val (Value.string s0)), AV.dv (DV.val (Value.string s1))] [] (OSh.enc (OSh.plain (.i IntKind.i64) []) y) :=
  auto_okM tm_std (with_ok mixed (by kernel_rfl) (cmp_Compare_σok n) n 0 []) (with_pick mixed (by kernel_rfl) (cmp_Compare_σok n) n 0 []) mixed Try.func47 (by decide) (o := (OSh.plain (.i IntKind.i64) [])) h
/-! cmp_isNaN_i2: function 54 -/
def cmp_isNaN_i2_lv : Live := []
noncomputable def cmp_isNaN_i2_σ (n : Nat) : Spec := Spec.none
theorem cmp_isNaN_i2_σok (n : Nat) : SpecOk Try.prog (cmp_isNaN_i2_σ n) := (SpecOk.none _)
noncomputable def cmp_isNaN_i2_Φ (n : Nat) : Orc := with_ Try.prog (cmp_isNaN_i2_σ n) [] n 0 []
noncomputable def cmp_isNaN_i2_v (n : Nat) (j0 : Int) : Option (Bool × Unit) :=
  DM.denFn tm (cmp_isNaN_i2_Φ n) cmp_isNaN_i2_lv n Try.f54 false [AV.dv (DV.val (Value.int IntKind.i64 j0))] [] (OSh.chk (OSh.plain (.b) []))
theorem cmp_isNaN_i2_e (n : Nat) (j0 : Int) : cmp_isNaN_i2_v n j0 =
  some (j0 != j0, ()) := by kernel_rfl
theorem cmp_isNaN_i2_c (n : Nat) (j0 : Int) (y : Bool × Unit) (h : cmp_isNaN_i2_v n j0 = some y) : Contract Try.prog 54 [AV.dv (DV.val (Value.int IntKind.i64 j0))] [] (OSh.enc (OSh.plain (.b) []) y) :=
  auto_okM tm_std (with_ok mixed (by kernel_rfl) (cmp_isNaN_i2_σok n) n 0 []) (with_pick mixed (by kernel_rfl) (cmp_isNaN_i2_σok n) n 0 []) mixed Try.func54 (by decide) (o := (OSh.plain (.b) [])) h
/-! cmp_Compare_i2: function 52 -/
def cmp_Compare_i2_lv : Live := []
noncomputable def cmp_Compare_i2_σ (n : Nat) : Spec := (inst 54 [.i IntKind.i64] [] (OSh.plain (.b) []) (fun x e => cmp_isNaN_i2_v n x.1) Spec.none)
theorem cmp_Compare_i2_σok (n : Nat) : SpecOk Try.prog (cmp_Compare_i2_σ n) := (inst_ok (fun x e y h => cmp_isNaN_i2_c n x.1 y h) (SpecOk.none _))
noncomputable def cmp_Compare_i2_Φ (n : Nat) : Orc := with_ Try.prog (cmp_Compare_i2_σ n) [] n 0 []
noncomputable def cmp_Compare_i2_v (n : Nat) (j0 : Int) (j1 : Int) : Option (Int × Unit) :=
  DM.denFn tm (cmp_Compare_i2_Φ n) cmp_Compare_i2_lv n Try.f52 false [AV.dv (DV.val (Value.int IntKind.i64 j0)), AV.dv (DV.val (Value.int IntKind.i64 j1))] [] (OSh.chk (OSh.plain (.i IntKind.i64) []))
theorem cmp_Compare_i2_e (n : Nat) (j0 : Int) (j1 : Int) : cmp_Compare_i2_v n j0 j1 =
  obind (cmp_isNaN_i2_v n j0) fun y2 =>
  obind (cmp_isNaN_i2_v n j1) fun y3 =>
  bif y2.fst then
    bif y3.fst then
      some (0, ())
    else some (-1, ())
  else bif y3.fst then
    some (1, ())
  else bif decide (j0 < j1) then
    some (-1, ())
  else bif decide (j0 > j1) then
    some (1, ())
  else some (0, ()) := by kernel_rfl
theorem cmp_Compare_i2_c (n : Nat) (j0 : Int) (j1 : Int) (y : Int × Unit) (h : cmp_Compare_i2_v n j0 j1 = some y) : Contract Try.prog 52 [AV.dv (DV.val (Value.int IntKind.i64 j0)), AV.dv (DV.val (Value.int IntKind.i64 j1))] [] (OSh.enc (OSh.plain (.i IntKind.i64) []) y) :=
  auto_okM tm_std (with_ok mixed (by kernel_rfl) (cmp_Compare_i2_σok n) n 0 []) (with_pick mixed (by kernel_rfl) (cmp_Compare_i2_σok n) n 0 []) mixed Try.func52 (by decide) (o := (OSh.plain (.i IntKind.i64) [])) h
/-! cmp_Or: function 46 -/
def cmp_Or_lv : Live := [(3, [3, 6, 7, 8], [1000, 1001, 1002, 1003])]
noncomputable def cmp_Or_σ (n : Nat) : Spec := Spec.none
theorem cmp_Or_σok (n : Nat) : SpecOk Try.prog (cmp_Or_σ n) := (SpecOk.none _)
noncomputable def cmp_Or_Φ (n : Nat) : Orc := with_ Try.prog (cmp_Or_σ n) [] n 0 []
noncomputable def cmp_Or_v (n : Nat) (b0 : Bool) (r1 : Rows) : Option (Int × Unit) :=
  DM.denFn tm (cmp_Or_Φ n) cmp_Or_lv n Try.f46 false [AV.sl b0 [Kd.i IntKind.i64] r1 Right.no] [] (OSh.chk (OSh.plain (.i IntKind.i64) []))
noncomputable def cmp_Or_l3 (n : Nat) (b0 : Bool) (r1 : Rows) (i0 : Nat) (j2 : Int) : Option (Int × Unit) :=
  DM.loopFn tm (cmp_Or_Φ n) cmp_Or_lv n Try.f46 false [] (OSh.chk (OSh.plain (.i IntKind.i64) [])) 3 [] i0 (St.mk [AV.junk, AV.junk, AV.junk, AV.dv (DV.val (Value.int IntKind.i64 0)), AV.junk, AV.junk, AV.sl b0 [Kd.i IntKind.i64] r1 Right.no, AV.dv (DV.val (Value.int IntKind.i64 (↑(List.length r1) : Int))), AV.dv (DV.val (Value.int IntKind.i64 j2)), AV.junk, AV.junk, AV.junk, AV.junk, AV.junk, AV.junk, AV.junk, AV.junk, AV.junk] [])
theorem cmp_Or_s3 (n : Nat) (b0 : Bool) (r1 : Rows) (i0 : Nat) (j2 : Int) : cmp_Or_l3 n b0 r1 (i0 + 1) j2 =
  bif decide (j2 < (↑(List.length r1) : Int)) then
    if 0 ≤ j2 then
      if j2 < (↑(List.length r1) : Int) then
        bif Row.I (List.getD r1 (Int.toNat j2) []) 0 != 0 then
          some (Row.I (List.getD r1 (Int.toNat j2) []) 0, ())
        else cmp_Or_l3 n b0 r1 i0 (IntKind.wrap IntKind.i64 (j2 + 1))
      else none
    else none
  else some (0, ()) := by kernel_rfl
theorem cmp_Or_e (n : Nat) (b0 : Bool) (r1 : Rows) : cmp_Or_v n b0 r1 =
  cmp_Or_l3 n b0 r1 n 0 := by kernel_rfl
theorem cmp_Or_c (n : Nat) (b0 : Bool) (r1 : Rows) (y : Int × Unit) (h : cmp_Or_v n b0 r1 = some y) : Contract Try.prog 46 [AV.sl b0 [Kd.i IntKind.i64] r1 Right.no] [] (OSh.enc (OSh.plain (.i IntKind.i64) []) y) :=
  auto_okM tm_std (with_ok mixed (by kernel_rfl) (cmp_Or_σok n) n 0 []) (with_pick mixed (by kernel_rfl) (cmp_Or_σok n) n 0 []) mixed Try.func46 (by decide) (o := (OSh.plain (.i IntKind.i64) [])) h
/-! fact_Compare: function 49 -/
def fact_Compare_lv : Live := []
noncomputable def fact_Compare_σ (n : Nat) : Spec := (inst 52 [.i IntKind.i64, .i IntKind.i64] [] (OSh.plain (.i IntKind.i64) []) (fun x e => cmp_Compare_i2_v n x.1 x.2.1) (inst 47 [.s, .s] [] (OSh.plain (.i IntKind.i64) []) (fun x e => cmp_Compare_v n x.1 x.2.1) (inst 46 [.sl [Kd.i IntKind.i64]] [] (OSh.plain (.i IntKind.i64) []) (fun x e => cmp_Or_v n x.1.1 x.1.2) Spec.none)))
theorem fact_Compare_σok (n : Nat) : SpecOk Try.prog (fact_Compare_σ n) := (inst_ok (fun x e y h => cmp_Compare_i2_c n x.1 x.2.1 y h) (inst_ok (fun x e y h => cmp_Compare_c n x.1 x.2.1 y h) (inst_ok (fun x e y h => cmp_Or_c n x.1.1 x.1.2 y h) (SpecOk.none _))))
noncomputable def fact_Compare_Φ (n : Nat) : Orc := with_ Try.prog (fact_Compare_σ n) [] n 0 []
noncomputable def fact_Compare_v (n : Nat) (b0 : Bool) (j1 : Int) (s2 : ByteArray) (b3 : Bool) (j4 : Int) (s5 : ByteArray) : Option (Int × Unit) :=
  DM.denFn tm (fact_Compare_Φ n) fact_Compare_lv n Try.f49 false [AV.agg [AV.dv (DV.val (Value.bool b0)), AV.dv (DV.val (Value.int IntKind.i64 j1)), AV.dv (DV.val (Value.string s2))], AV.agg [AV.dv (DV.val (Value.bool b3)), AV.dv (DV.val (Value.int IntKind.i64 j4)), AV.dv (DV.val (Value.string s5))]] [] (OSh.chk (OSh.plain (.i IntKind.i64) []))
theorem fact_Compare_e (n : Nat) (b0 : Bool) (j1 : Int) (s2 : ByteArray) (b3 : Bool) (j4 : Int) (s5 : ByteArray) : fact_Compare_v n b0 j1 s2 b3 j4 s5 =
  bif !b0 == b3 then
    bif b0 then
      some (-1, ())
    else some (1, ())
  else obind (cmp_Compare_i2_v n j1 j4) fun y6 =>
  obind (cmp_Compare_v n s2 s5) fun y7 =>
  obind (cmp_Or_v n false ([[DV.val (Value.int IntKind.i64 y6.fst)], [DV.val (Value.int IntKind.i64 y7.fst)]])) fun y8 =>
  some (y8.fst, ()) := by kernel_rfl
theorem fact_Compare_c (n : Nat) (b0 : Bool) (j1 : Int) (s2 : ByteArray) (b3 : Bool) (j4 : Int) (s5 : ByteArray) (y : Int × Unit) (h : fact_Compare_v n b0 j1 s2 b3 j4 s5 = some y) : Contract Try.prog 49 [AV.agg [AV.dv (DV.val (Value.bool b0)), AV.dv (DV.val (Value.int IntKind.i64 j1)), AV.dv (DV.val (Value.string s2))], AV.agg [AV.dv (DV.val (Value.bool b3)), AV.dv (DV.val (Value.int IntKind.i64 j4)), AV.dv (DV.val (Value.string s5))]] [] (OSh.enc (OSh.plain (.i IntKind.i64) []) y) :=
  auto_okM tm_std (with_ok mixed (by kernel_rfl) (fact_Compare_σok n) n 0 []) (with_pick mixed (by kernel_rfl) (fact_Compare_σok n) n 0 []) mixed Try.func49 (by decide) (o := (OSh.plain (.i IntKind.i64) [])) h
/-! slices_CompareFunc: function 48 -/
def slices_CompareFunc_fact_Compare_lv : Live := [(2, [0, 1, 2, 11, 12, 13], [1000, 1001, 1002, 1003])]
noncomputable def slices_CompareFunc_fact_Compare_σ (n : Nat) : Spec := (inst 49 [.agg [.b, .i IntKind.i64, .s], .agg [.b, .i IntKind.i64, .s]] [] (OSh.plain (.i IntKind.i64) []) (fun x e => fact_Compare_v n x.1.1 x.1.2.1 x.1.2.2.1 x.2.1.1 x.2.1.2.1 x.2.1.2.2.1) Spec.none)
theorem slices_CompareFunc_fact_Compare_σok (n : Nat) : SpecOk Try.prog (slices_CompareFunc_fact_Compare_σ n) := (inst_ok (fun x e y h => fact_Compare_c n x.1.1 x.1.2.1 x.1.2.2.1 x.2.1.1 x.2.1.2.1 x.2.1.2.2.1 y h) (SpecOk.none _))
noncomputable def slices_CompareFunc_fact_Compare_Φ (n : Nat) : Orc := with_ Try.prog (slices_CompareFunc_fact_Compare_σ n) [] n 0 []
noncomputable def slices_CompareFunc_fact_Compare_v (n : Nat) (b0 : Bool) (r1 : Rows) (b2 : Bool) (r3 : Rows) : Option (Int × Unit) :=
  DM.denFn tm (slices_CompareFunc_fact_Compare_Φ n) slices_CompareFunc_fact_Compare_lv n Try.f48 false [AV.sl b0 [Kd.b, Kd.i IntKind.i64, Kd.s] r1 Right.no, AV.sl b2 [Kd.b, Kd.i IntKind.i64, Kd.s] r3 Right.no, AV.fn 49 []] [] (OSh.chk (OSh.plain (.i IntKind.i64) []))
noncomputable def slices_CompareFunc_fact_Compare_l2 (n : Nat) (b0 : Bool) (r1 : Rows) (b2 : Bool) (r3 : Rows) (i0 : Nat) (j5 : Int) : Option (Int × Unit) :=
  DM.loopFn tm (slices_CompareFunc_fact_Compare_Φ n) slices_CompareFunc_fact_Compare_lv n Try.f48 false [] (OSh.chk (OSh.plain (.i IntKind.i64) [])) 2 [] i0 (St.mk [AV.sl b0 [Kd.b, Kd.i IntKind.i64, Kd.s] r1 Right.no, AV.sl b2 [Kd.b, Kd.i IntKind.i64, Kd.s] r3 Right.no, AV.fn 49 [], AV.junk, AV.junk, AV.junk, AV.junk, AV.junk, AV.junk, AV.junk, AV.junk, AV.sl b0 [Kd.b, Kd.i IntKind.i64, Kd.s] r1 Right.no, AV.dv (DV.val (Value.int IntKind.i64 (↑(List.length r1) : Int))), AV.dv (DV.val (Value.int IntKind.i64 j5)), AV.junk, AV.junk, AV.junk, AV.junk, AV.junk, AV.junk, AV.junk, AV.junk, AV.junk, AV.junk, AV.junk, AV.junk, AV.junk, AV.junk, AV.junk, AV.junk, AV.junk, AV.junk, AV.junk, AV.junk, AV.junk, AV.junk, AV.junk, AV.junk, AV.junk] [])
theorem slices_CompareFunc_fact_Compare_s2 (n : Nat) (b0 : Bool) (r1 : Rows) (b2 : Bool) (r3 : Rows) (i0 : Nat) (j5 : Int) : slices_CompareFunc_fact_Compare_l2 n b0 r1 b2 r3 (i0 + 1) j5 =
  bif decide (j5 < (↑(List.length r1) : Int)) then
    if 0 ≤ j5 then
      if j5 < (↑(List.length r1) : Int) then
        bif decide (j5 ≥ (↑(List.length r3) : Int)) then
          some (1, ())
        else if 0 ≤ j5 then
          if j5 < (↑(List.length r3) : Int) then
            obind (fact_Compare_v n (Row.B (List.getD r1 (Int.toNat j5) []) 0) (Row.I (List.getD r1 (Int.toNat j5) []) 1) (Row.S (List.getD r1 (Int.toNat j5) []) 2) (Row.B (List.getD r3 (Int.toNat j5) []) 0) (Row.I (List.getD r3 (Int.toNat j5) []) 1) (Row.S (List.getD r3 (Int.toNat j5) []) 2)) fun y6 =>
            bif y6.fst != 0 then
              some (y6.fst, ())
            else slices_CompareFunc_fact_Compare_l2 n b0 r1 b2 r3 i0 (IntKind.wrap IntKind.i64 (j5 + 1))
          else none
        else none
      else none
    else none
  else bif decide ((↑(List.length r1) : Int) < (↑(List.length r3) : Int)) then
    some (-1, ())
  else some (0, ()) := by kernel_rfl
theorem slices_CompareFunc_fact_Compare_e (n : Nat) (b0 : Bool) (r1 : Rows) (b2 : Bool) (r3 : Rows) : slices_CompareFunc_fact_Compare_v n b0 r1 b2 r3 =
  slices_CompareFunc_fact_Compare_l2 n b0 r1 b2 r3 n 0 := by kernel_rfl
theorem slices_CompareFunc_fact_Compare_c (n : Nat) (b0 : Bool) (r1 : Rows) (b2 : Bool) (r3 : Rows) (y : Int × Unit) (h : slices_CompareFunc_fact_Compare_v n b0 r1 b2 r3 = some y) : Contract Try.prog 48 [AV.sl b0 [Kd.b, Kd.i IntKind.i64, Kd.s] r1 Right.no, AV.sl b2 [Kd.b, Kd.i IntKind.i64, Kd.s] r3 Right.no, AV.fn 49 []] [] (OSh.enc (OSh.plain (.i IntKind.i64) []) y) :=
  auto_okM tm_std (with_ok mixed (by kernel_rfl) (slices_CompareFunc_fact_Compare_σok n) n 0 []) (with_pick mixed (by kernel_rfl) (slices_CompareFunc_fact_Compare_σok n) n 0 []) mixed Try.func48 (by decide) (o := (OSh.plain (.i IntKind.i64) [])) h
/-! fact_Order: function 43 -/
def fact_Order_lv : Live := []
noncomputable def fact_Order_σ (n : Nat) : Spec := (inst 47 [.s, .s] [] (OSh.plain (.i IntKind.i64) []) (fun x e => cmp_Compare_v n x.1 x.2.1) (inst 48 [.sl [Kd.b, Kd.i IntKind.i64, Kd.s], .sl [Kd.b, Kd.i IntKind.i64, Kd.s], .fn 49 []] [] (OSh.plain (.i IntKind.i64) []) (fun x e => slices_CompareFunc_fact_Compare_v n x.1.1 x.1.2 x.2.1.1 x.2.1.2) (inst 46 [.sl [Kd.i IntKind.i64]] [] (OSh.plain (.i IntKind.i64) []) (fun x e => cmp_Or_v n x.1.1 x.1.2) Spec.none)))
theorem fact_Order_σok (n : Nat) : SpecOk Try.prog (fact_Order_σ n) := (inst_ok (fun x e y h => cmp_Compare_c n x.1 x.2.1 y h) (inst_ok (fun x e y h => slices_CompareFunc_fact_Compare_c n x.1.1 x.1.2 x.2.1.1 x.2.1.2 y h) (inst_ok (fun x e y h => cmp_Or_c n x.1.1 x.1.2 y h) (SpecOk.none _))))
noncomputable def fact_Order_Φ (n : Nat) : Orc := with_ Try.prog (fact_Order_σ n) [] n 0 []
noncomputable def fact_Order_v (n : Nat) (s0 : ByteArray) (s1 : ByteArray) (s2 : ByteArray) (b3 : Bool) (r4 : Rows) (s5 : ByteArray) (s6 : ByteArray) (s7 : ByteArray) (b8 : Bool) (r9 : Rows) : Option (Int × Unit) :=
  DM.denFn tm (fact_Order_Φ n) fact_Order_lv n Try.f43 false [AV.agg [AV.dv (DV.val (Value.string s0)), AV.dv (DV.val (Value.string s1)), AV.dv (DV.val (Value.string s2)), AV.sl b3 [Kd.b, Kd.i IntKind.i64, Kd.s] r4 Right.no], AV.agg [AV.dv (DV.val (Value.string s5)), AV.dv (DV.val (Value.string s6)), AV.dv (DV.val (Value.string s7)), AV.sl b8 [Kd.b, Kd.i IntKind.i64, Kd.s] r9 Right.no]] [] (OSh.chk (OSh.plain (.i IntKind.i64) []))
theorem fact_Order_e (n : Nat) (s0 : ByteArray) (s1 : ByteArray) (s2 : ByteArray) (b3 : Bool) (r4 : Rows) (s5 : ByteArray) (s6 : ByteArray) (s7 : ByteArray) (b8 : Bool) (r9 : Rows) : fact_Order_v n s0 s1 s2 b3 r4 s5 s6 s7 b8 r9 =
  obind (cmp_Compare_v n s0 s5) fun y10 =>
  obind (cmp_Compare_v n s1 s6) fun y11 =>
  obind (cmp_Compare_v n s2 s7) fun y12 =>
  obind (slices_CompareFunc_fact_Compare_v n b3 r4 b8 r9) fun y13 =>
  obind (cmp_Or_v n false ([[DV.val (Value.int IntKind.i64 y10.fst)], [DV.val (Value.int IntKind.i64 y11.fst)], [DV.val (Value.int IntKind.i64 y12.fst)], [DV.val (Value.int IntKind.i64 y13.fst)]])) fun y14 =>
  some (y14.fst, ()) := by kernel_rfl
theorem fact_Order_c (n : Nat) (s0 : ByteArray) (s1 : ByteArray) (s2 : ByteArray) (b3 : Bool) (r4 : Rows) (s5 : ByteArray) (s6 : ByteArray) (s7 : ByteArray) (b8 : Bool) (r9 : Rows) (y : Int × Unit) (h : fact_Order_v n s0 s1 s2 b3 r4 s5 s6 s7 b8 r9 = some y) : Contract Try.prog 43 [AV.agg [AV.dv (DV.val (Value.string s0)), AV.dv (DV.val (Value.string s1)), AV.dv (DV.val (Value.string s2)), AV.sl b3 [Kd.b, Kd.i IntKind.i64, Kd.s] r4 Right.no], AV.agg [AV.dv (DV.val (Value.string s5)), AV.dv (DV.val (Value.string s6)), AV.dv (DV.val (Value.string s7)), AV.sl b8 [Kd.b, Kd.i IntKind.i64, Kd.s] r9 Right.no]] [] (OSh.enc (OSh.plain (.i IntKind.i64) []) y) :=
  auto_okM tm_std (with_ok mixed (by kernel_rfl) (fact_Order_σok n) n 0 []) (with_pick mixed (by kernel_rfl) (fact_Order_σok n) n 0 []) mixed Try.func43 (by decide) (o := (OSh.plain (.i IntKind.i64) [])) h
/-! match_Follows: function 24 -/
def match_Follows_lv : Live := [(5, [2, 3, 5, 32, 33, 34], [2, 3, 1000, 1001, 1002, 1003])]
noncomputable def match_Follows_σ (n : Nat) : Spec := (inst 35 [.s] [] (OSh.plain (.agg [.b, .i IntKind.i64, .s]) []) (fun x e => match_text_v n x.1) (inst 12 [.agg [.s, .b, .i IntKind.i64, .s], .agg [.b, .i IntKind.i64, .s], .sl [Kd.s, Kd.b, Kd.i IntKind.i64, Kd.s]] [] (OSh.plain (.tup [.slt [Kd.s, Kd.b, Kd.i IntKind.i64, Kd.s] 0, .b]) []) (fun x e => match_Unify_v n x.1.1 x.1.2.1 x.1.2.2.1 x.1.2.2.2.1 x.2.1.1 x.2.1.2.1 x.2.1.2.2.1 x.2.2.1.1 x.2.2.1.2) (inst 16 [.agg [.s, .b, .i IntKind.i64, .s], .agg [.s, .b, .i IntKind.i64, .s, .s, .sl [Kd.s, Kd.b, Kd.i IntKind.i64, Kd.s], .s, .b, .i IntKind.i64, .s], .agg [.s, .s, .s, .sl [Kd.b, Kd.i IntKind.i64, Kd.s]], .sl [Kd.s, Kd.b, Kd.i IntKind.i64, Kd.s]] [] (OSh.plain (.tup [.slt [Kd.s, Kd.b, Kd.i IntKind.i64, Kd.s] 0, .b]) []) (fun x e => match_Literal_v n x.1.1 x.1.2.1 x.1.2.2.1 x.1.2.2.2.1 x.2.1.1 x.2.1.2.1 x.2.1.2.2.1 x.2.1.2.2.2.1 x.2.1.2.2.2.2.1 x.2.1.2.2.2.2.2.1.1 x.2.1.2.2.2.2.2.1.2 x.2.1.2.2.2.2.2.2.1 x.2.1.2.2.2.2.2.2.2.1 x.2.1.2.2.2.2.2.2.2.2.1 x.2.1.2.2.2.2.2.2.2.2.2.1 x.2.2.1.1 x.2.2.1.2.1 x.2.2.1.2.2.1 x.2.2.1.2.2.2.1.1 x.2.2.1.2.2.2.1.2 x.2.2.2.1.1 x.2.2.2.1.2) (inst 19 [.agg [.s, .b, .i IntKind.i64, .s, .s, .sl [Kd.s, Kd.b, Kd.i IntKind.i64, Kd.s], .s, .b, .i IntKind.i64, .s, .sl [Kd.s, Kd.b, Kd.i IntKind.i64, Kd.s, Kd.s, Kd.sl [Kd.s, Kd.b, Kd.i IntKind.i64, Kd.s], Kd.s, Kd.b, Kd.i IntKind.i64, Kd.s]], .sl [Kd.s, Kd.b, Kd.i IntKind.i64, Kd.s]] [] (OSh.plain (.tup [.agg [.s, .s, .s, .sl [Kd.b, Kd.i IntKind.i64, Kd.s]], .b]) []) (fun x e => match_Head_v n x.1.1 x.1.2.1 x.1.2.2.1 x.1.2.2.2.1 x.1.2.2.2.2.1 x.1.2.2.2.2.2.1.1 x.1.2.2.2.2.2.1.2 x.1.2.2.2.2.2.2.1 x.1.2.2.2.2.2.2.2.1 x.1.2.2.2.2.2.2.2.2.1 x.1.2.2.2.2.2.2.2.2.2.1 x.1.2.2.2.2.2.2.2.2.2.2.1.1 x.1.2.2.2.2.2.2.2.2.2.2.1.2 x.2.1.1 x.2.1.2) (inst 43 [.agg [.s, .s, .s, .sl [Kd.b, Kd.i IntKind.i64, Kd.s]], .agg [.s, .s, .s, .sl [Kd.b, Kd.i IntKind.i64, Kd.s]]] [] (OSh.plain (.i IntKind.i64) []) (fun x e => fact_Order_v n x.1.1 x.1.2.1 x.1.2.2.1 x.1.2.2.2.1.1 x.1.2.2.2.1.2 x.2.1.1 x.2.1.2.1 x.2.1.2.2.1 x.2.1.2.2.2.1.1 x.2.1.2.2.2.1.2) Spec.none)))))
theorem match_Follows_σok (n : Nat) : SpecOk Try.prog (match_Follows_σ n) := (inst_ok (fun x e y h => match_text_c n x.1 y h) (inst_ok (fun x e y h => match_Unify_c n x.1.1 x.1.2.1 x.1.2.2.1 x.1.2.2.2.1 x.2.1.1 x.2.1.2.1 x.2.1.2.2.1 x.2.2.1.1 x.2.2.1.2 y h) (inst_ok (fun x e y h => match_Literal_c n x.1.1 x.1.2.1 x.1.2.2.1 x.1.2.2.2.1 x.2.1.1 x.2.1.2.1 x.2.1.2.2.1 x.2.1.2.2.2.1 x.2.1.2.2.2.2.1 x.2.1.2.2.2.2.2.1.1 x.2.1.2.2.2.2.2.1.2 x.2.1.2.2.2.2.2.2.1 x.2.1.2.2.2.2.2.2.2.1 x.2.1.2.2.2.2.2.2.2.2.1 x.2.1.2.2.2.2.2.2.2.2.2.1 x.2.2.1.1 x.2.2.1.2.1 x.2.2.1.2.2.1 x.2.2.1.2.2.2.1.1 x.2.2.1.2.2.2.1.2 x.2.2.2.1.1 x.2.2.2.1.2 y h) (inst_ok (fun x e y h => match_Head_c n x.1.1 x.1.2.1 x.1.2.2.1 x.1.2.2.2.1 x.1.2.2.2.2.1 x.1.2.2.2.2.2.1.1 x.1.2.2.2.2.2.1.2 x.1.2.2.2.2.2.2.1 x.1.2.2.2.2.2.2.2.1 x.1.2.2.2.2.2.2.2.2.1 x.1.2.2.2.2.2.2.2.2.2.1 x.1.2.2.2.2.2.2.2.2.2.2.1.1 x.1.2.2.2.2.2.2.2.2.2.2.1.2 x.2.1.1 x.2.1.2 y h) (inst_ok (fun x e y h => fact_Order_c n x.1.1 x.1.2.1 x.1.2.2.1 x.1.2.2.2.1.1 x.1.2.2.2.1.2 x.2.1.1 x.2.1.2.1 x.2.1.2.2.1 x.2.1.2.2.2.1.1 x.2.1.2.2.2.1.2 y h) (SpecOk.none _))))))
noncomputable def match_Follows_Φ (n : Nat) : Orc := with_ Try.prog (match_Follows_σ n) [] n 0 []
noncomputable def match_Follows_v (n : Nat) (s0 : ByteArray) (b1 : Bool) (j2 : Int) (s3 : ByteArray) (s4 : ByteArray) (b5 : Bool) (r6 : Rows) (s7 : ByteArray) (b8 : Bool) (j9 : Int) (s10 : ByteArray) (b11 : Bool) (r12 : Rows) (j13 : Int) (s14 : ByteArray) (s15 : ByteArray) (s16 : ByteArray) (b17 : Bool) (r18 : Rows) (b19 : Bool) (r20 : Rows) : Option (Bool × Unit) :=
  DM.denFn tm (match_Follows_Φ n) match_Follows_lv n Try.f24 false [AV.agg [AV.dv (DV.val (Value.string s0)), AV.dv (DV.val (Value.bool b1)), AV.dv (DV.val (Value.int IntKind.i64 j2)), AV.dv (DV.val (Value.string s3)), AV.dv (DV.val (Value.string s4)), AV.sl b5 [Kd.s, Kd.b, Kd.i IntKind.i64, Kd.s] r6 Right.no, AV.dv (DV.val (Value.string s7)), AV.dv (DV.val (Value.bool b8)), AV.dv (DV.val (Value.int IntKind.i64 j9)), AV.dv (DV.val (Value.string s10)), AV.sl b11 [Kd.s, Kd.b, Kd.i IntKind.i64, Kd.s, Kd.s, Kd.sl [Kd.s, Kd.b, Kd.i IntKind.i64, Kd.s], Kd.s, Kd.b, Kd.i IntKind.i64, Kd.s] r12 Right.no], AV.agg [AV.dv (DV.val (Value.int IntKind.i64 j13)), AV.dv (DV.val (Value.string s14)), AV.dv (DV.val (Value.string s15)), AV.dv (DV.val (Value.string s16)), AV.sl b17 [Kd.b, Kd.i IntKind.i64, Kd.s] r18 Right.no, AV.sl b19 [Kd.s, Kd.s, Kd.s, Kd.sl [Kd.b, Kd.i IntKind.i64, Kd.s]] r20 Right.no]] [] (OSh.chk (OSh.plain (.b) []))
noncomputable def match_Follows_l5 (n : Nat) (s0 : ByteArray) (b1 : Bool) (j2 : Int) (s3 : ByteArray) (s4 : ByteArray) (b5 : Bool) (r6 : Rows) (s7 : ByteArray) (b8 : Bool) (j9 : Int) (s10 : ByteArray) (b11 : Bool) (r12 : Rows) (j13 : Int) (s14 : ByteArray) (s15 : ByteArray) (s16 : ByteArray) (b17 : Bool) (r18 : Rows) (b19 : Bool) (r20 : Rows) (i0 : Nat) (b23 : Bool) (r24 : List (List DV)) (j28 : Int) : Option (Bool × Unit) :=
  DM.loopFn tm (match_Follows_Φ n) match_Follows_lv n Try.f24 false [] (OSh.chk (OSh.plain (.b) [])) 5 [] i0 (St.mk [AV.junk, AV.junk, AV.pl 2 0, AV.pl 3 0, AV.junk, AV.sl b23 [Kd.s, Kd.b, Kd.i IntKind.i64, Kd.s] r24 (Right.tok 5), AV.junk, AV.junk, AV.junk, AV.junk, AV.junk, AV.junk, AV.junk, AV.junk, AV.junk, AV.junk, AV.junk, AV.junk, AV.junk, AV.junk, AV.junk, AV.junk, AV.junk, AV.junk, AV.junk, AV.junk, AV.junk, AV.junk, AV.junk, AV.junk, AV.junk, AV.junk, AV.sl b11 [Kd.s, Kd.b, Kd.i IntKind.i64, Kd.s, Kd.s, Kd.sl [Kd.s, Kd.b, Kd.i IntKind.i64, Kd.s], Kd.s, Kd.b, Kd.i IntKind.i64, Kd.s] r12 Right.no, AV.dv (DV.val (Value.int IntKind.i64 (↑(List.length r12) : Int))), AV.dv (DV.val (Value.int IntKind.i64 j28)), AV.junk, AV.junk, AV.junk, AV.junk, AV.junk, AV.junk, AV.junk, AV.junk, AV.junk, AV.junk, AV.junk, AV.junk, AV.junk, AV.junk, AV.junk, AV.junk, AV.junk, AV.junk, AV.junk, AV.junk, AV.junk, AV.junk, AV.junk, AV.junk, AV.junk, AV.junk, AV.junk, AV.junk, AV.junk, AV.junk, AV.junk, AV.junk, AV.junk, AV.junk] [(2, [AV.dv (DV.val (Value.string s0)), AV.dv (DV.val (Value.bool b1)), AV.dv (DV.val (Value.int IntKind.i64 j2)), AV.dv (DV.val (Value.string s3)), AV.dv (DV.val (Value.string s4)), AV.sl b5 [Kd.s, Kd.b, Kd.i IntKind.i64, Kd.s] r6 Right.no, AV.dv (DV.val (Value.string s7)), AV.dv (DV.val (Value.bool b8)), AV.dv (DV.val (Value.int IntKind.i64 j9)), AV.dv (DV.val (Value.string s10)), AV.sl b11 [Kd.s, Kd.b, Kd.i IntKind.i64, Kd.s, Kd.s, Kd.sl [Kd.s, Kd.b, Kd.i IntKind.i64, Kd.s], Kd.s, Kd.b, Kd.i IntKind.i64, Kd.s] r12 Right.no]), (3, [AV.dv (DV.val (Value.int IntKind.i64 j13)), AV.dv (DV.val (Value.string s14)), AV.dv (DV.val (Value.string s15)), AV.dv (DV.val (Value.string s16)), AV.sl b17 [Kd.b, Kd.i IntKind.i64, Kd.s] r18 Right.no, AV.sl b19 [Kd.s, Kd.s, Kd.s, Kd.sl [Kd.b, Kd.i IntKind.i64, Kd.s]] r20 Right.no])])
theorem match_Follows_s5 (n : Nat) (s0 : ByteArray) (b1 : Bool) (j2 : Int) (s3 : ByteArray) (s4 : ByteArray) (b5 : Bool) (r6 : Rows) (s7 : ByteArray) (b8 : Bool) (j9 : Int) (s10 : ByteArray) (b11 : Bool) (r12 : Rows) (j13 : Int) (s14 : ByteArray) (s15 : ByteArray) (s16 : ByteArray) (b17 : Bool) (r18 : Rows) (b19 : Bool) (r20 : Rows) (i0 : Nat) (b23 : Bool) (r24 : List (List DV)) (j28 : Int) : match_Follows_l5 n s0 b1 j2 s3 s4 b5 r6 s7 b8 j9 s10 b11 r12 j13 s14 s15 s16 b17 r18 b19 r20 (i0 + 1) b23 r24 j28 =
  bif decide (j28 < (↑(List.length r12) : Int)) then
    if 0 ≤ j28 then
      if j28 < (↑(List.length r12) : Int) then
        if 0 ≤ j28 then
          if j28 < (↑(List.length r20) : Int) then
            obind (match_Literal_v n s0 b1 j2 s3 (Row.S (List.getD r12 (Int.toNat j28) []) 0) (Row.B (List.getD r12 (Int.toNat j28) []) 1) (Row.I (List.getD r12 (Int.toNat j28) []) 2) (Row.S (List.getD r12 (Int.toNat j28) []) 3) (Row.S (List.getD r12 (Int.toNat j28) []) 4) (Row.N (List.getD r12 (Int.toNat j28) []) 5) (Row.R (List.getD r12 (Int.toNat j28) []) 5) (Row.S (List.getD r12 (Int.toNat j28) []) 6) (Row.B (List.getD r12 (Int.toNat j28) []) 7) (Row.I (List.getD r12 (Int.toNat j28) []) 8) (Row.S (List.getD r12 (Int.toNat j28) []) 9) (Row.S (List.getD r20 (Int.toNat j28) []) 0) (Row.S (List.getD r20 (Int.toNat j28) []) 1) (Row.S (List.getD r20 (Int.toNat j28) []) 2) (Row.N (List.getD r20 (Int.toNat j28) []) 3) (Row.R (List.getD r20 (Int.toNat j28) []) 3) b23 r24) fun y29 =>
            bif !y29.fst.snd.fst then
              some (false, ())
            else match_Follows_l5 n s0 b1 j2 s3 s4 b5 r6 s7 b8 j9 s10 b11 r12 j13 s14 s15 s16 b17 r18 b19 r20 i0 y29.fst.fst.fst y29.fst.fst.snd (IntKind.wrap IntKind.i64 (j28 + 1))
          else none
        else none
      else none
    else none
  else obind (match_Head_v n s0 b1 j2 s3 s4 b5 r6 s7 b8 j9 s10 b11 r12 b23 r24) fun y30 =>
  bif y30.fst.snd.fst then
    obind (fact_Order_v n y30.fst.fst.fst y30.fst.fst.snd.fst y30.fst.fst.snd.snd.fst y30.fst.fst.snd.snd.snd.fst.fst y30.fst.fst.snd.snd.snd.fst.snd s14 s15 s16 b17 r18) fun y31 =>
    some (y31.fst == 0, ())
  else some (false, ()) := by kernel_rfl
theorem match_Follows_e (n : Nat) (s0 : ByteArray) (b1 : Bool) (j2 : Int) (s3 : ByteArray) (s4 : ByteArray) (b5 : Bool) (r6 : Rows) (s7 : ByteArray) (b8 : Bool) (j9 : Int) (s10 : ByteArray) (b11 : Bool) (r12 : Rows) (j13 : Int) (s14 : ByteArray) (s15 : ByteArray) (s16 : ByteArray) (b17 : Bool) (r18 : Rows) (b19 : Bool) (r20 : Rows) : match_Follows_v n s0 b1 j2 s3 s4 b5 r6 s7 b8 j9 s10 b11 r12 j13 s14 s15 s16 b17 r18 b19 r20 =
  obind (match_text_v n s15) fun y21 =>
  obind (match_Unify_v n s0 b1 j2 s3 y21.fst.fst y21.fst.snd.fst y21.fst.snd.snd.fst true []) fun y22 =>
  bif !y22.fst.snd.fst then
    some (false, ())
  else bif (↑(List.length r12) : Int) != (↑(List.length r20) : Int) then
    some (false, ())
  else match_Follows_l5 n s0 b1 j2 s3 s4 b5 r6 s7 b8 j9 s10 b11 r12 j13 s14 s15 s16 b17 r18 b19 r20 n y22.fst.fst.fst y22.fst.fst.snd 0 := by kernel_rfl
theorem match_Follows_c (n : Nat) (s0 : ByteArray) (b1 : Bool) (j2 : Int) (s3 : ByteArray) (s4 : ByteArray) (b5 : Bool) (r6 : Rows) (s7 : ByteArray) (b8 : Bool) (j9 : Int) (s10 : ByteArray) (b11 : Bool) (r12 : Rows) (j13 : Int) (s14 : ByteArray) (s15 : ByteArray) (s16 : ByteArray) (b17 : Bool) (r18 : Rows) (b19 : Bool) (r20 : Rows) (y : Bool × Unit) (h : match_Follows_v n s0 b1 j2 s3 s4 b5 r6 s7 b8 j9 s10 b11 r12 j13 s14 s15 s16 b17 r18 b19 r20 = some y) : Contract Try.prog 24 [AV.agg [AV.dv (DV.val (Value.string s0)), AV.dv (DV.val (Value.bool b1)), AV.dv (DV.val (Value.int IntKind.i64 j2)), AV.dv (DV.val (Value.string s3)), AV.dv (DV.val (Value.string s4)), AV.sl b5 [Kd.s, Kd.b, Kd.i IntKind.i64, Kd.s] r6 Right.no, AV.dv (DV.val (Value.string s7)), AV.dv (DV.val (Value.bool b8)), AV.dv (DV.val (Value.int IntKind.i64 j9)), AV.dv (DV.val (Value.string s10)), AV.sl b11 [Kd.s, Kd.b, Kd.i IntKind.i64, Kd.s, Kd.s, Kd.sl [Kd.s, Kd.b, Kd.i IntKind.i64, Kd.s], Kd.s, Kd.b, Kd.i IntKind.i64, Kd.s] r12 Right.no], AV.agg [AV.dv (DV.val (Value.int IntKind.i64 j13)), AV.dv (DV.val (Value.string s14)), AV.dv (DV.val (Value.string s15)), AV.dv (DV.val (Value.string s16)), AV.sl b17 [Kd.b, Kd.i IntKind.i64, Kd.s] r18 Right.no, AV.sl b19 [Kd.s, Kd.s, Kd.s, Kd.sl [Kd.b, Kd.i IntKind.i64, Kd.s]] r20 Right.no]] [] (OSh.enc (OSh.plain (.b) []) y) :=
  auto_okM tm_std (with_ok mixed (by kernel_rfl) (match_Follows_σok n) n 0 []) (with_pick mixed (by kernel_rfl) (match_Follows_σok n) n 0 []) mixed Try.func24 (by decide) (o := (OSh.plain (.b) [])) h
/-! ref11_Follows: function 25 -/
def ref11_Follows_lv : Live := [(5, [2, 3, 5, 7], [2, 3, 1000, 1001, 1002, 1003])]
noncomputable def ref11_Follows_σ (n : Nat) : Spec := (inst 36 [.s] [] (OSh.plain (.agg [.b, .i IntKind.i64, .s]) []) (fun x e => ref11_Name_v n x.1) (inst 13 [.agg [.s, .b, .i IntKind.i64, .s], .agg [.b, .i IntKind.i64, .s], .sl [Kd.s, Kd.b, Kd.i IntKind.i64, Kd.s]] [] (OSh.plain (.tup [.slt [Kd.s, Kd.b, Kd.i IntKind.i64, Kd.s] 0, .b]) []) (fun x e => ref11_Unify_v n x.1.1 x.1.2.1 x.1.2.2.1 x.1.2.2.2.1 x.2.1.1 x.2.1.2.1 x.2.1.2.2.1 x.2.2.1.1 x.2.2.1.2) (inst 17 [.agg [.s, .b, .i IntKind.i64, .s], .agg [.s, .b, .i IntKind.i64, .s, .s, .sl [Kd.s, Kd.b, Kd.i IntKind.i64, Kd.s], .s, .b, .i IntKind.i64, .s], .agg [.s, .s, .s, .sl [Kd.b, Kd.i IntKind.i64, Kd.s]], .sl [Kd.s, Kd.b, Kd.i IntKind.i64, Kd.s]] [] (OSh.plain (.tup [.slt [Kd.s, Kd.b, Kd.i IntKind.i64, Kd.s] 0, .b]) []) (fun x e => ref11_Literal_v n x.1.1 x.1.2.1 x.1.2.2.1 x.1.2.2.2.1 x.2.1.1 x.2.1.2.1 x.2.1.2.2.1 x.2.1.2.2.2.1 x.2.1.2.2.2.2.1 x.2.1.2.2.2.2.2.1.1 x.2.1.2.2.2.2.2.1.2 x.2.1.2.2.2.2.2.2.1 x.2.1.2.2.2.2.2.2.2.1 x.2.1.2.2.2.2.2.2.2.2.1 x.2.1.2.2.2.2.2.2.2.2.2.1 x.2.2.1.1 x.2.2.1.2.1 x.2.2.1.2.2.1 x.2.2.1.2.2.2.1.1 x.2.2.1.2.2.2.1.2 x.2.2.2.1.1 x.2.2.2.1.2) (inst 20 [.agg [.s, .b, .i IntKind.i64, .s, .s, .sl [Kd.s, Kd.b, Kd.i IntKind.i64, Kd.s], .s, .b, .i IntKind.i64, .s, .sl [Kd.s, Kd.b, Kd.i IntKind.i64, Kd.s, Kd.s, Kd.sl [Kd.s, Kd.b, Kd.i IntKind.i64, Kd.s], Kd.s, Kd.b, Kd.i IntKind.i64, Kd.s]], .sl [Kd.s, Kd.b, Kd.i IntKind.i64, Kd.s]] [] (OSh.plain (.tup [.agg [.s, .s, .s, .sl [Kd.b, Kd.i IntKind.i64, Kd.s]], .b]) []) (fun x e => ref11_Head_v n x.1.1 x.1.2.1 x.1.2.2.1 x.1.2.2.2.1 x.1.2.2.2.2.1 x.1.2.2.2.2.2.1.1 x.1.2.2.2.2.2.1.2 x.1.2.2.2.2.2.2.1 x.1.2.2.2.2.2.2.2.1 x.1.2.2.2.2.2.2.2.2.1 x.1.2.2.2.2.2.2.2.2.2.1 x.1.2.2.2.2.2.2.2.2.2.2.1.1 x.1.2.2.2.2.2.2.2.2.2.2.1.2 x.2.1.1 x.2.1.2) (inst 18 [.agg [.s, .s, .s, .sl [Kd.b, Kd.i IntKind.i64, Kd.s]], .agg [.s, .s, .s, .sl [Kd.b, Kd.i IntKind.i64, Kd.s]]] [] (OSh.plain (.i IntKind.i64) []) (fun x e => ref04_Order_v n x.1.1 x.1.2.1 x.1.2.2.1 x.1.2.2.2.1.1 x.1.2.2.2.1.2 x.2.1.1 x.2.1.2.1 x.2.1.2.2.1 x.2.1.2.2.2.1.1 x.2.1.2.2.2.1.2) Spec.none)))))
theorem ref11_Follows_σok (n : Nat) : SpecOk Try.prog (ref11_Follows_σ n) := (inst_ok (fun x e y h => ref11_Name_c n x.1 y h) (inst_ok (fun x e y h => ref11_Unify_c n x.1.1 x.1.2.1 x.1.2.2.1 x.1.2.2.2.1 x.2.1.1 x.2.1.2.1 x.2.1.2.2.1 x.2.2.1.1 x.2.2.1.2 y h) (inst_ok (fun x e y h => ref11_Literal_c n x.1.1 x.1.2.1 x.1.2.2.1 x.1.2.2.2.1 x.2.1.1 x.2.1.2.1 x.2.1.2.2.1 x.2.1.2.2.2.1 x.2.1.2.2.2.2.1 x.2.1.2.2.2.2.2.1.1 x.2.1.2.2.2.2.2.1.2 x.2.1.2.2.2.2.2.2.1 x.2.1.2.2.2.2.2.2.2.1 x.2.1.2.2.2.2.2.2.2.2.1 x.2.1.2.2.2.2.2.2.2.2.2.1 x.2.2.1.1 x.2.2.1.2.1 x.2.2.1.2.2.1 x.2.2.1.2.2.2.1.1 x.2.2.1.2.2.2.1.2 x.2.2.2.1.1 x.2.2.2.1.2 y h) (inst_ok (fun x e y h => ref11_Head_c n x.1.1 x.1.2.1 x.1.2.2.1 x.1.2.2.2.1 x.1.2.2.2.2.1 x.1.2.2.2.2.2.1.1 x.1.2.2.2.2.2.1.2 x.1.2.2.2.2.2.2.1 x.1.2.2.2.2.2.2.2.1 x.1.2.2.2.2.2.2.2.2.1 x.1.2.2.2.2.2.2.2.2.2.1 x.1.2.2.2.2.2.2.2.2.2.2.1.1 x.1.2.2.2.2.2.2.2.2.2.2.1.2 x.2.1.1 x.2.1.2 y h) (inst_ok (fun x e y h => ref04_Order_c n x.1.1 x.1.2.1 x.1.2.2.1 x.1.2.2.2.1.1 x.1.2.2.2.1.2 x.2.1.1 x.2.1.2.1 x.2.1.2.2.1 x.2.1.2.2.2.1.1 x.2.1.2.2.2.1.2 y h) (SpecOk.none _))))))
noncomputable def ref11_Follows_Φ (n : Nat) : Orc := with_ Try.prog (ref11_Follows_σ n) [] n 0 []
noncomputable def ref11_Follows_v (n : Nat) (s0 : ByteArray) (b1 : Bool) (j2 : Int) (s3 : ByteArray) (s4 : ByteArray) (b5 : Bool) (r6 : Rows) (s7 : ByteArray) (b8 : Bool) (j9 : Int) (s10 : ByteArray) (b11 : Bool) (r12 : Rows) (j13 : Int) (s14 : ByteArray) (s15 : ByteArray) (s16 : ByteArray) (b17 : Bool) (r18 : Rows) (b19 : Bool) (r20 : Rows) : Option (Bool × Unit) :=
  DM.denFn tm (ref11_Follows_Φ n) ref11_Follows_lv n Try.f25 false [AV.agg [AV.dv (DV.val (Value.string s0)), AV.dv (DV.val (Value.bool b1)), AV.dv (DV.val (Value.int IntKind.i64 j2)), AV.dv (DV.val (Value.string s3)), AV.dv (DV.val (Value.string s4)), AV.sl b5 [Kd.s, Kd.b, Kd.i IntKind.i64, Kd.s] r6 Right.no, AV.dv (DV.val (Value.string s7)), AV.dv (DV.val (Value.bool b8)), AV.dv (DV.val (Value.int IntKind.i64 j9)), AV.dv (DV.val (Value.string s10)), AV.sl b11 [Kd.s, Kd.b, Kd.i IntKind.i64, Kd.s, Kd.s, Kd.sl [Kd.s, Kd.b, Kd.i IntKind.i64, Kd.s], Kd.s, Kd.b, Kd.i IntKind.i64, Kd.s] r12 Right.no], AV.agg [AV.dv (DV.val (Value.int IntKind.i64 j13)), AV.dv (DV.val (Value.string s14)), AV.dv (DV.val (Value.string s15)), AV.dv (DV.val (Value.string s16)), AV.sl b17 [Kd.b, Kd.i IntKind.i64, Kd.s] r18 Right.no, AV.sl b19 [Kd.s, Kd.s, Kd.s, Kd.sl [Kd.b, Kd.i IntKind.i64, Kd.s]] r20 Right.no]] [] (OSh.chk (OSh.plain (.b) []))
noncomputable def ref11_Follows_l5 (n : Nat) (s0 : ByteArray) (b1 : Bool) (j2 : Int) (s3 : ByteArray) (s4 : ByteArray) (b5 : Bool) (r6 : Rows) (s7 : ByteArray) (b8 : Bool) (j9 : Int) (s10 : ByteArray) (b11 : Bool) (r12 : Rows) (j13 : Int) (s14 : ByteArray) (s15 : ByteArray) (s16 : ByteArray) (b17 : Bool) (r18 : Rows) (b19 : Bool) (r20 : Rows) (i0 : Nat) (b23 : Bool) (r24 : List (List DV)) (j28 : Int) : Option (Bool × Unit) :=
  DM.loopFn tm (ref11_Follows_Φ n) ref11_Follows_lv n Try.f25 false [] (OSh.chk (OSh.plain (.b) [])) 5 [] i0 (St.mk [AV.junk, AV.junk, AV.pl 2 0, AV.pl 3 0, AV.junk, AV.sl b23 [Kd.s, Kd.b, Kd.i IntKind.i64, Kd.s] r24 (Right.tok 5), AV.junk, AV.dv (DV.val (Value.int IntKind.i64 j28)), AV.junk, AV.junk, AV.junk, AV.junk, AV.junk, AV.junk, AV.junk, AV.junk, AV.junk, AV.junk, AV.junk, AV.junk, AV.junk, AV.junk, AV.junk, AV.junk, AV.junk, AV.junk, AV.junk, AV.junk, AV.junk, AV.junk, AV.junk, AV.junk, AV.junk, AV.junk, AV.junk, AV.junk, AV.junk, AV.junk, AV.junk, AV.junk, AV.junk, AV.junk, AV.junk, AV.junk, AV.junk, AV.junk, AV.junk, AV.junk, AV.junk, AV.junk, AV.junk, AV.junk, AV.junk, AV.junk, AV.junk, AV.junk, AV.junk, AV.junk, AV.junk, AV.junk, AV.junk, AV.junk, AV.junk, AV.junk, AV.junk, AV.junk, AV.junk, AV.junk, AV.junk, AV.junk] [(2, [AV.dv (DV.val (Value.string s0)), AV.dv (DV.val (Value.bool b1)), AV.dv (DV.val (Value.int IntKind.i64 j2)), AV.dv (DV.val (Value.string s3)), AV.dv (DV.val (Value.string s4)), AV.sl b5 [Kd.s, Kd.b, Kd.i IntKind.i64, Kd.s] r6 Right.no, AV.dv (DV.val (Value.string s7)), AV.dv (DV.val (Value.bool b8)), AV.dv (DV.val (Value.int IntKind.i64 j9)), AV.dv (DV.val (Value.string s10)), AV.sl b11 [Kd.s, Kd.b, Kd.i IntKind.i64, Kd.s, Kd.s, Kd.sl [Kd.s, Kd.b, Kd.i IntKind.i64, Kd.s], Kd.s, Kd.b, Kd.i IntKind.i64, Kd.s] r12 Right.no]), (3, [AV.dv (DV.val (Value.int IntKind.i64 j13)), AV.dv (DV.val (Value.string s14)), AV.dv (DV.val (Value.string s15)), AV.dv (DV.val (Value.string s16)), AV.sl b17 [Kd.b, Kd.i IntKind.i64, Kd.s] r18 Right.no, AV.sl b19 [Kd.s, Kd.s, Kd.s, Kd.sl [Kd.b, Kd.i IntKind.i64, Kd.s]] r20 Right.no])])
theorem ref11_Follows_s5 (n : Nat) (s0 : ByteArray) (b1 : Bool) (j2 : Int) (s3 : ByteArray) (s4 : ByteArray) (b5 : Bool) (r6 : Rows) (s7 : ByteArray) (b8 : Bool) (j9 : Int) (s10 : ByteArray) (b11 : Bool) (r12 : Rows) (j13 : Int) (s14 : ByteArray) (s15 : ByteArray) (s16 : ByteArray) (b17 : Bool) (r18 : Rows) (b19 : Bool) (r20 : Rows) (i0 : Nat) (b23 : Bool) (r24 : List (List DV)) (j28 : Int) : ref11_Follows_l5 n s0 b1 j2 s3 s4 b5 r6 s7 b8 j9 s10 b11 r12 j13 s14 s15 s16 b17 r18 b19 r20 (i0 + 1) b23 r24 j28 =
  bif decide (j28 < (↑(List.length r12) : Int)) then
    if 0 ≤ j28 then
      if j28 < (↑(List.length r12) : Int) then
        if 0 ≤ j28 then
          if j28 < (↑(List.length r20) : Int) then
            obind (ref11_Literal_v n s0 b1 j2 s3 (Row.S (List.getD r12 (Int.toNat j28) []) 0) (Row.B (List.getD r12 (Int.toNat j28) []) 1) (Row.I (List.getD r12 (Int.toNat j28) []) 2) (Row.S (List.getD r12 (Int.toNat j28) []) 3) (Row.S (List.getD r12 (Int.toNat j28) []) 4) (Row.N (List.getD r12 (Int.toNat j28) []) 5) (Row.R (List.getD r12 (Int.toNat j28) []) 5) (Row.S (List.getD r12 (Int.toNat j28) []) 6) (Row.B (List.getD r12 (Int.toNat j28) []) 7) (Row.I (List.getD r12 (Int.toNat j28) []) 8) (Row.S (List.getD r12 (Int.toNat j28) []) 9) (Row.S (List.getD r20 (Int.toNat j28) []) 0) (Row.S (List.getD r20 (Int.toNat j28) []) 1) (Row.S (List.getD r20 (Int.toNat j28) []) 2) (Row.N (List.getD r20 (Int.toNat j28) []) 3) (Row.R (List.getD r20 (Int.toNat j28) []) 3) b23 r24) fun y29 =>
            bif !y29.fst.snd.fst then
              some (false, ())
            else ref11_Follows_l5 n s0 b1 j2 s3 s4 b5 r6 s7 b8 j9 s10 b11 r12 j13 s14 s15 s16 b17 r18 b19 r20 i0 y29.fst.fst.fst y29.fst.fst.snd (IntKind.wrap IntKind.i64 (j28 + 1))
          else none
        else none
      else none
    else none
  else obind (ref11_Head_v n s0 b1 j2 s3 s4 b5 r6 s7 b8 j9 s10 b11 r12 b23 r24) fun y30 =>
  bif y30.fst.snd.fst then
    obind (ref04_Order_v n y30.fst.fst.fst y30.fst.fst.snd.fst y30.fst.fst.snd.snd.fst y30.fst.fst.snd.snd.snd.fst.fst y30.fst.fst.snd.snd.snd.fst.snd s14 s15 s16 b17 r18) fun y31 =>
    some (y31.fst == 0, ())
  else some (false, ()) := by kernel_rfl
theorem ref11_Follows_e (n : Nat) (s0 : ByteArray) (b1 : Bool) (j2 : Int) (s3 : ByteArray) (s4 : ByteArray) (b5 : Bool) (r6 : Rows) (s7 : ByteArray) (b8 : Bool) (j9 : Int) (s10 : ByteArray) (b11 : Bool) (r12 : Rows) (j13 : Int) (s14 : ByteArray) (s15 : ByteArray) (s16 : ByteArray) (b17 : Bool) (r18 : Rows) (b19 : Bool) (r20 : Rows) : ref11_Follows_v n s0 b1 j2 s3 s4 b5 r6 s7 b8 j9 s10 b11 r12 j13 s14 s15 s16 b17 r18 b19 r20 =
  obind (ref11_Name_v n s15) fun y21 =>
  obind (ref11_Unify_v n s0 b1 j2 s3 y21.fst.fst y21.fst.snd.fst y21.fst.snd.snd.fst true []) fun y22 =>
  bif !y22.fst.snd.fst then
    some (false, ())
  else bif (↑(List.length r12) : Int) != (↑(List.length r20) : Int) then
    some (false, ())
  else ref11_Follows_l5 n s0 b1 j2 s3 s4 b5 r6 s7 b8 j9 s10 b11 r12 j13 s14 s15 s16 b17 r18 b19 r20 n y22.fst.fst.fst y22.fst.fst.snd 0 := by kernel_rfl
theorem ref11_Follows_c (n : Nat) (s0 : ByteArray) (b1 : Bool) (j2 : Int) (s3 : ByteArray) (s4 : ByteArray) (b5 : Bool) (r6 : Rows) (s7 : ByteArray) (b8 : Bool) (j9 : Int) (s10 : ByteArray) (b11 : Bool) (r12 : Rows) (j13 : Int) (s14 : ByteArray) (s15 : ByteArray) (s16 : ByteArray) (b17 : Bool) (r18 : Rows) (b19 : Bool) (r20 : Rows) (y : Bool × Unit) (h : ref11_Follows_v n s0 b1 j2 s3 s4 b5 r6 s7 b8 j9 s10 b11 r12 j13 s14 s15 s16 b17 r18 b19 r20 = some y) : Contract Try.prog 25 [AV.agg [AV.dv (DV.val (Value.string s0)), AV.dv (DV.val (Value.bool b1)), AV.dv (DV.val (Value.int IntKind.i64 j2)), AV.dv (DV.val (Value.string s3)), AV.dv (DV.val (Value.string s4)), AV.sl b5 [Kd.s, Kd.b, Kd.i IntKind.i64, Kd.s] r6 Right.no, AV.dv (DV.val (Value.string s7)), AV.dv (DV.val (Value.bool b8)), AV.dv (DV.val (Value.int IntKind.i64 j9)), AV.dv (DV.val (Value.string s10)), AV.sl b11 [Kd.s, Kd.b, Kd.i IntKind.i64, Kd.s, Kd.s, Kd.sl [Kd.s, Kd.b, Kd.i IntKind.i64, Kd.s], Kd.s, Kd.b, Kd.i IntKind.i64, Kd.s] r12 Right.no], AV.agg [AV.dv (DV.val (Value.int IntKind.i64 j13)), AV.dv (DV.val (Value.string s14)), AV.dv (DV.val (Value.string s15)), AV.dv (DV.val (Value.string s16)), AV.sl b17 [Kd.b, Kd.i IntKind.i64, Kd.s] r18 Right.no, AV.sl b19 [Kd.s, Kd.s, Kd.s, Kd.sl [Kd.b, Kd.i IntKind.i64, Kd.s]] r20 Right.no]] [] (OSh.enc (OSh.plain (.b) []) y) :=
  auto_okM tm_std (with_ok mixed (by kernel_rfl) (ref11_Follows_σok n) n 0 []) (with_pick mixed (by kernel_rfl) (ref11_Follows_σok n) n 0 []) mixed Try.func25 (by decide) (o := (OSh.plain (.b) [])) h
/-! law11_MatchFollows: function 7 -/
def law11_MatchFollows_lv : Live := []
noncomputable def law11_MatchFollows_σ (n : Nat) : Spec := (inst 15 [.agg [.s, .b, .i IntKind.i64, .s, .s, .sl [Kd.s, Kd.b, Kd.i IntKind.i64, Kd.s], .s, .b, .i IntKind.i64, .s, .sl [Kd.s, Kd.b, Kd.i IntKind.i64, Kd.s, Kd.s, Kd.sl [Kd.s, Kd.b, Kd.i IntKind.i64, Kd.s], Kd.s, Kd.b, Kd.i IntKind.i64, Kd.s]], .sl [Kd.s, Kd.s, Kd.s, Kd.sl [Kd.b, Kd.i IntKind.i64, Kd.s]], .sl [Kd.s, Kd.b, Kd.i IntKind.i64, Kd.s]] [] (OSh.plain (.b) []) (fun x e => law11_light_v n x.1.1 x.1.2.1 x.1.2.2.1 x.1.2.2.2.1 x.1.2.2.2.2.1 x.1.2.2.2.2.2.1.1 x.1.2.2.2.2.2.1.2 x.1.2.2.2.2.2.2.1 x.1.2.2.2.2.2.2.2.1 x.1.2.2.2.2.2.2.2.2.1 x.1.2.2.2.2.2.2.2.2.2.1 x.1.2.2.2.2.2.2.2.2.2.2.1.1 x.1.2.2.2.2.2.2.2.2.2.2.1.2 x.2.1.1 x.2.1.2 x.2.2.1.1 x.2.2.1.2) (inst 9 [] [] (OSh.plain (.b) []) (fun x e => law11_live_v n) (inst 24 [.agg [.s, .b, .i IntKind.i64, .s, .s, .sl [Kd.s, Kd.b, Kd.i IntKind.i64, Kd.s], .s, .b, .i IntKind.i64, .s, .sl [Kd.s, Kd.b, Kd.i IntKind.i64, Kd.s, Kd.s, Kd.sl [Kd.s, Kd.b, Kd.i IntKind.i64, Kd.s], Kd.s, Kd.b, Kd.i IntKind.i64, Kd.s]], .agg [.i IntKind.i64, .s, .s, .s, .sl [Kd.b, Kd.i IntKind.i64, Kd.s], .sl [Kd.s, Kd.s, Kd.s, Kd.sl [Kd.b, Kd.i IntKind.i64, Kd.s]]]] [] (OSh.plain (.b) []) (fun x e => match_Follows_v n x.1.1 x.1.2.1 x.1.2.2.1 x.1.2.2.2.1 x.1.2.2.2.2.1 x.1.2.2.2.2.2.1.1 x.1.2.2.2.2.2.1.2 x.1.2.2.2.2.2.2.1 x.1.2.2.2.2.2.2.2.1 x.1.2.2.2.2.2.2.2.2.1 x.1.2.2.2.2.2.2.2.2.2.1 x.1.2.2.2.2.2.2.2.2.2.2.1.1 x.1.2.2.2.2.2.2.2.2.2.2.1.2 x.2.1.1 x.2.1.2.1 x.2.1.2.2.1 x.2.1.2.2.2.1 x.2.1.2.2.2.2.1.1 x.2.1.2.2.2.2.1.2 x.2.1.2.2.2.2.2.1.1 x.2.1.2.2.2.2.2.1.2) (inst 25 [.agg [.s, .b, .i IntKind.i64, .s, .s, .sl [Kd.s, Kd.b, Kd.i IntKind.i64, Kd.s], .s, .b, .i IntKind.i64, .s, .sl [Kd.s, Kd.b, Kd.i IntKind.i64, Kd.s, Kd.s, Kd.sl [Kd.s, Kd.b, Kd.i IntKind.i64, Kd.s], Kd.s, Kd.b, Kd.i IntKind.i64, Kd.s]], .agg [.i IntKind.i64, .s, .s, .s, .sl [Kd.b, Kd.i IntKind.i64, Kd.s], .sl [Kd.s, Kd.s, Kd.s, Kd.sl [Kd.b, Kd.i IntKind.i64, Kd.s]]]] [] (OSh.plain (.b) []) (fun x e => ref11_Follows_v n x.1.1 x.1.2.1 x.1.2.2.1 x.1.2.2.2.1 x.1.2.2.2.2.1 x.1.2.2.2.2.2.1.1 x.1.2.2.2.2.2.1.2 x.1.2.2.2.2.2.2.1 x.1.2.2.2.2.2.2.2.1 x.1.2.2.2.2.2.2.2.2.1 x.1.2.2.2.2.2.2.2.2.2.1 x.1.2.2.2.2.2.2.2.2.2.2.1.1 x.1.2.2.2.2.2.2.2.2.2.2.1.2 x.2.1.1 x.2.1.2.1 x.2.1.2.2.1 x.2.1.2.2.2.1 x.2.1.2.2.2.2.1.1 x.2.1.2.2.2.2.1.2 x.2.1.2.2.2.2.2.1.1 x.2.1.2.2.2.2.2.1.2) Spec.none))))
theorem law11_MatchFollows_σok (n : Nat) : SpecOk Try.prog (law11_MatchFollows_σ n) := (inst_ok (fun x e y h => law11_light_c n x.1.1 x.1.2.1 x.1.2.2.1 x.1.2.2.2.1 x.1.2.2.2.2.1 x.1.2.2.2.2.2.1.1 x.1.2.2.2.2.2.1.2 x.1.2.2.2.2.2.2.1 x.1.2.2.2.2.2.2.2.1 x.1.2.2.2.2.2.2.2.2.1 x.1.2.2.2.2.2.2.2.2.2.1 x.1.2.2.2.2.2.2.2.2.2.2.1.1 x.1.2.2.2.2.2.2.2.2.2.2.1.2 x.2.1.1 x.2.1.2 x.2.2.1.1 x.2.2.1.2 y h) (inst_ok (fun x e y h => law11_live_c n y h) (inst_ok (fun x e y h => match_Follows_c n x.1.1 x.1.2.1 x.1.2.2.1 x.1.2.2.2.1 x.1.2.2.2.2.1 x.1.2.2.2.2.2.1.1 x.1.2.2.2.2.2.1.2 x.1.2.2.2.2.2.2.1 x.1.2.2.2.2.2.2.2.1 x.1.2.2.2.2.2.2.2.2.1 x.1.2.2.2.2.2.2.2.2.2.1 x.1.2.2.2.2.2.2.2.2.2.2.1.1 x.1.2.2.2.2.2.2.2.2.2.2.1.2 x.2.1.1 x.2.1.2.1 x.2.1.2.2.1 x.2.1.2.2.2.1 x.2.1.2.2.2.2.1.1 x.2.1.2.2.2.2.1.2 x.2.1.2.2.2.2.2.1.1 x.2.1.2.2.2.2.2.1.2 y h) (inst_ok (fun x e y h => ref11_Follows_c n x.1.1 x.1.2.1 x.1.2.2.1 x.1.2.2.2.1 x.1.2.2.2.2.1 x.1.2.2.2.2.2.1.1 x.1.2.2.2.2.2.1.2 x.1.2.2.2.2.2.2.1 x.1.2.2.2.2.2.2.2.1 x.1.2.2.2.2.2.2.2.2.1 x.1.2.2.2.2.2.2.2.2.2.1 x.1.2.2.2.2.2.2.2.2.2.2.1.1 x.1.2.2.2.2.2.2.2.2.2.2.1.2 x.2.1.1 x.2.1.2.1 x.2.1.2.2.1 x.2.1.2.2.2.1 x.2.1.2.2.2.2.1.1 x.2.1.2.2.2.2.1.2 x.2.1.2.2.2.2.2.1.1 x.2.1.2.2.2.2.2.1.2 y h) (SpecOk.none _)))))
noncomputable def law11_MatchFollows_Φ (n : Nat) : Orc := with_ Try.prog (law11_MatchFollows_σ n) [] n 0 []
noncomputable def law11_MatchFollows_v (n : Nat) (s0 : ByteArray) (b1 : Bool) (j2 : Int) (s3 : ByteArray) (s4 : ByteArray) (b5 : Bool) (r6 : Rows) (s7 : ByteArray) (b8 : Bool) (j9 : Int) (s10 : ByteArray) (b11 : Bool) (r12 : Rows) (j13 : Int) (s14 : ByteArray) (s15 : ByteArray) (s16 : ByteArray) (b17 : Bool) (r18 : Rows) (b19 : Bool) (r20 : Rows) : Option (Bool × Unit) :=
  DM.denFn tm (law11_MatchFollows_Φ n) law11_MatchFollows_lv n Try.f7 false [AV.agg [AV.dv (DV.val (Value.string s0)), AV.dv (DV.val (Value.bool b1)), AV.dv (DV.val (Value.int IntKind.i64 j2)), AV.dv (DV.val (Value.string s3)), AV.dv (DV.val (Value.string s4)), AV.sl b5 [Kd.s, Kd.b, Kd.i IntKind.i64, Kd.s] r6 Right.no, AV.dv (DV.val (Value.string s7)), AV.dv (DV.val (Value.bool b8)), AV.dv (DV.val (Value.int IntKind.i64 j9)), AV.dv (DV.val (Value.string s10)), AV.sl b11 [Kd.s, Kd.b, Kd.i IntKind.i64, Kd.s, Kd.s, Kd.sl [Kd.s, Kd.b, Kd.i IntKind.i64, Kd.s], Kd.s, Kd.b, Kd.i IntKind.i64, Kd.s] r12 Right.no], AV.agg [AV.dv (DV.val (Value.int IntKind.i64 j13)), AV.dv (DV.val (Value.string s14)), AV.dv (DV.val (Value.string s15)), AV.dv (DV.val (Value.string s16)), AV.sl b17 [Kd.b, Kd.i IntKind.i64, Kd.s] r18 Right.no, AV.sl b19 [Kd.s, Kd.s, Kd.s, Kd.sl [Kd.b, Kd.i IntKind.i64, Kd.s]] r20 Right.no]] [] (OSh.chk (OSh.plain (.b) []))
theorem law11_MatchFollows_e (n : Nat) (s0 : ByteArray) (b1 : Bool) (j2 : Int) (s3 : ByteArray) (s4 : ByteArray) (b5 : Bool) (r6 : Rows) (s7 : ByteArray) (b8 : Bool) (j9 : Int) (s10 : ByteArray) (b11 : Bool) (r12 : Rows) (j13 : Int) (s14 : ByteArray) (s15 : ByteArray) (s16 : ByteArray) (b17 : Bool) (r18 : Rows) (b19 : Bool) (r20 : Rows) : law11_MatchFollows_v n s0 b1 j2 s3 s4 b5 r6 s7 b8 j9 s10 b11 r12 j13 s14 s15 s16 b17 r18 b19 r20 =
  if (List.length [[DV.val (Value.string s14), DV.val (Value.string s15), DV.val (Value.string s16), DV.sl b17 [Kd.b, Kd.i IntKind.i64, Kd.s] r18]] + List.length r20) * 72 ≤ 140737488355328 then
    obind (law11_light_v n s0 b1 j2 s3 s4 b5 r6 s7 b8 j9 s10 b11 r12 (false && List.isEmpty r20) (appX [[DV.val (Value.string s14), DV.val (Value.string s15), DV.val (Value.string s16), DV.sl b17 [Kd.b, Kd.i IntKind.i64, Kd.s] r18]] r20) true []) fun y21 =>
    bif !y21.fst then
      obind (law11_live_v n) fun y22 =>
      some (y22.fst, ())
    else obind (match_Follows_v n s0 b1 j2 s3 s4 b5 r6 s7 b8 j9 s10 b11 r12 j13 s14 s15 s16 b17 r18 b19 r20) fun y23 =>
    obind (ref11_Follows_v n s0 b1 j2 s3 s4 b5 r6 s7 b8 j9 s10 b11 r12 j13 s14 s15 s16 b17 r18 b19 r20) fun y24 =>
    bif y23.fst == y24.fst then
      obind (law11_live_v n) fun y25 =>
      some (y25.fst, ())
    else some (false, ())
  else none := by kernel_rfl
theorem law11_MatchFollows_c (n : Nat) (s0 : ByteArray) (b1 : Bool) (j2 : Int) (s3 : ByteArray) (s4 : ByteArray) (b5 : Bool) (r6 : Rows) (s7 : ByteArray) (b8 : Bool) (j9 : Int) (s10 : ByteArray) (b11 : Bool) (r12 : Rows) (j13 : Int) (s14 : ByteArray) (s15 : ByteArray) (s16 : ByteArray) (b17 : Bool) (r18 : Rows) (b19 : Bool) (r20 : Rows) (y : Bool × Unit) (h : law11_MatchFollows_v n s0 b1 j2 s3 s4 b5 r6 s7 b8 j9 s10 b11 r12 j13 s14 s15 s16 b17 r18 b19 r20 = some y) : Contract Try.prog 7 [AV.agg [AV.dv (DV.val (Value.string s0)), AV.dv (DV.val (Value.bool b1)), AV.dv (DV.val (Value.int IntKind.i64 j2)), AV.dv (DV.val (Value.string s3)), AV.dv (DV.val (Value.string s4)), AV.sl b5 [Kd.s, Kd.b, Kd.i IntKind.i64, Kd.s] r6 Right.no, AV.dv (DV.val (Value.string s7)), AV.dv (DV.val (Value.bool b8)), AV.dv (DV.val (Value.int IntKind.i64 j9)), AV.dv (DV.val (Value.string s10)), AV.sl b11 [Kd.s, Kd.b, Kd.i IntKind.i64, Kd.s, Kd.s, Kd.sl [Kd.s, Kd.b, Kd.i IntKind.i64, Kd.s], Kd.s, Kd.b, Kd.i IntKind.i64, Kd.s] r12 Right.no], AV.agg [AV.dv (DV.val (Value.int IntKind.i64 j13)), AV.dv (DV.val (Value.string s14)), AV.dv (DV.val (Value.string s15)), AV.dv (DV.val (Value.string s16)), AV.sl b17 [Kd.b, Kd.i IntKind.i64, Kd.s] r18 Right.no, AV.sl b19 [Kd.s, Kd.s, Kd.s, Kd.sl [Kd.b, Kd.i IntKind.i64, Kd.s]] r20 Right.no]] [] (OSh.enc (OSh.plain (.b) []) y) :=
  auto_okM tm_std (with_ok mixed (by kernel_rfl) (law11_MatchFollows_σok n) n 0 []) (with_pick mixed (by kernel_rfl) (law11_MatchFollows_σok n) n 0 []) mixed Try.func7 (by decide) (o := (OSh.plain (.b) [])) h
end Go.Den
