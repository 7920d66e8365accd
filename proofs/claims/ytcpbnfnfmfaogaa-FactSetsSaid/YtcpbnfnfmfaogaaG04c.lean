import Derived.Test.YtcpbnfnfmfaogaaG04b
set_option linter.unusedVariables false
set_option linter.unusedSimpArgs false
set_option linter.unusedSectionVars false
namespace Go.Den
open Go.Proofs
set_option maxRecDepth 100000
/-! ref04_Minus: function 35 -/
def ref04_Minus_lv : Live := [(3, [0, 1, 5, 6], [1000, 1001, 1002, 1003])]
noncomputable def ref04_Minus_σ (n : Nat) : Spec := (inst 33 [.sl [Kd.s, Kd.s, Kd.s, Kd.sl [Kd.b, Kd.i IntKind.i64, Kd.s]], .agg [.s, .s, .s, .sl [Kd.b, Kd.i IntKind.i64, Kd.s]]] [] (OSh.plain (.b) []) (fun x e => ref04_Has_v n x.1.1 x.1.2 x.2.1.1 x.2.1.2.1 x.2.1.2.2.1 x.2.1.2.2.2.1.1 x.2.1.2.2.2.1.2) (inst 69 [.slt [Kd.s, Kd.s, Kd.s, Kd.sl [Kd.b, Kd.i IntKind.i64, Kd.s]] 500000, .agg [.s, .s, .s, .sl [Kd.b, Kd.i IntKind.i64, Kd.s]]] [] (OSh.plain (.slt [Kd.s, Kd.s, Kd.s, Kd.sl [Kd.b, Kd.i IntKind.i64, Kd.s]] 0) []) (fun x e => ref04_With_v n x.1.1 x.1.2 x.2.1.1 x.2.1.2.1 x.2.1.2.2.1 x.2.1.2.2.2.1.1 x.2.1.2.2.2.1.2) Spec.none))
theorem ref04_Minus_σok (n : Nat) : SpecOk Try.prog (ref04_Minus_σ n) := (inst_ok (fun x e y h => ref04_Has_c n x.1.1 x.1.2 x.2.1.1 x.2.1.2.1 x.2.1.2.2.1 x.2.1.2.2.2.1.1 x.2.1.2.2.2.1.2 y h) (inst_ok (fun x e y h => ref04_With_c n x.1.1 x.1.2 x.2.1.1 x.2.1.2.1 x.2.1.2.2.1 x.2.1.2.2.2.1.1 x.2.1.2.2.2.1.2 y h) (SpecOk.none _)))
noncomputable def ref04_Minus_Φ (n : Nat) : Orc := with_ Try.prog (ref04_Minus_σ n) [] n 0 [1000067, 1000069]
noncomputable def ref04_Minus_v (n : Nat) (b0 : Bool) (r1 : Rows) (b2 : Bool) (r3 : Rows) : Option ((Bool × Rows) × Unit) :=
  DM.denFn tm (ref04_Minus_Φ n) ref04_Minus_lv n Try.f35 true [AV.sl b0 [Kd.s, Kd.s, Kd.s, Kd.sl [Kd.b, Kd.i IntKind.i64, Kd.s]] r1 Right.no, AV.sl b2 [Kd.s, Kd.s, Kd.s, Kd.sl [Kd.b, Kd.i IntKind.i64, Kd.s]] r3 Right.no] [] (OSh.chk (OSh.plain (.slt [Kd.s, Kd.s, Kd.s, Kd.sl [Kd.b, Kd.i IntKind.i64, Kd.s]] 0) []))
noncomputable def ref04_Minus_l3 (n : Nat) (b0 : Bool) (r1 : Rows) (b2 : Bool) (r3 : Rows) (i0 : Nat) (b6 : Bool) (r7 : List (List DV)) (j8 : Int) : Option ((Bool × Rows) × Unit) :=
  DM.loopFn tm (ref04_Minus_Φ n) ref04_Minus_lv n Try.f35 true [] (OSh.chk (OSh.plain (.slt [Kd.s, Kd.s, Kd.s, Kd.sl [Kd.b, Kd.i IntKind.i64, Kd.s]] 0) [])) 3 [] i0 (St.mk [AV.sl b0 [Kd.s, Kd.s, Kd.s, Kd.sl [Kd.b, Kd.i IntKind.i64, Kd.s]] r1 Right.no, AV.sl b2 [Kd.s, Kd.s, Kd.s, Kd.sl [Kd.b, Kd.i IntKind.i64, Kd.s]] r3 Right.no, AV.junk, AV.junk, AV.junk, AV.sl b6 [Kd.s, Kd.s, Kd.s, Kd.sl [Kd.b, Kd.i IntKind.i64, Kd.s]] r7 (Right.tok 5), AV.dv (DV.val (Value.int IntKind.i64 j8)), AV.junk, AV.junk, AV.junk, AV.junk, AV.junk, AV.junk, AV.junk, AV.junk, AV.junk, AV.junk, AV.junk, AV.junk, AV.junk, AV.junk, AV.junk, AV.junk, AV.junk, AV.junk, AV.junk, AV.junk] [])
theorem ref04_Minus_s3 (n : Nat) (b0 : Bool) (r1 : Rows) (b2 : Bool) (r3 : Rows) (i0 : Nat) (b6 : Bool) (r7 : List (List DV)) (j8 : Int) : ref04_Minus_l3 n b0 r1 b2 r3 (i0 + 1) b6 r7 j8 =
  bif decide (j8 < (↑(List.length r1) : Int)) then
    if 0 ≤ j8 then
      if j8 < (↑(List.length r1) : Int) then
        obind (ref04_Has_v n b2 r3 (Row.S (List.getD r1 (Int.toNat j8) []) 0) (Row.S (List.getD r1 (Int.toNat j8) []) 1) (Row.S (List.getD r1 (Int.toNat j8) []) 2) (Row.N (List.getD r1 (Int.toNat j8) []) 3) (Row.R (List.getD r1 (Int.toNat j8) []) 3)) fun y9 =>
        bif !y9.fst then
          if 0 ≤ j8 then
            if j8 < (↑(List.length r1) : Int) then
              obind (ref04_With_v n b6 r7 (Row.S (List.getD r1 (Int.toNat j8) []) 0) (Row.S (List.getD r1 (Int.toNat j8) []) 1) (Row.S (List.getD r1 (Int.toNat j8) []) 2) (Row.N (List.getD r1 (Int.toNat j8) []) 3) (Row.R (List.getD r1 (Int.toNat j8) []) 3)) fun y10 =>
              ref04_Minus_l3 n b0 r1 b2 r3 i0 y10.fst.fst y10.fst.snd (IntKind.wrap IntKind.i64 (j8 + 1))
            else none
          else none
        else ref04_Minus_l3 n b0 r1 b2 r3 i0 b6 r7 (IntKind.wrap IntKind.i64 (j8 + 1))
      else none
    else none
  else some ((b6, r7), ()) := by kernel_rfl
theorem ref04_Minus_e (n : Nat) (b0 : Bool) (r1 : Rows) (b2 : Bool) (r3 : Rows) : ref04_Minus_v n b0 r1 b2 r3 =
  ref04_Minus_l3 n b0 r1 b2 r3 n true [] 0 := by kernel_rfl
theorem ref04_Minus_c (n : Nat) (b0 : Bool) (r1 : Rows) (b2 : Bool) (r3 : Rows) (y : (Bool × Rows) × Unit) (h : ref04_Minus_v n b0 r1 b2 r3 = some y) : Contract Try.prog 35 [AV.sl b0 [Kd.s, Kd.s, Kd.s, Kd.sl [Kd.b, Kd.i IntKind.i64, Kd.s]] r1 Right.no, AV.sl b2 [Kd.s, Kd.s, Kd.s, Kd.sl [Kd.b, Kd.i IntKind.i64, Kd.s]] r3 Right.no] [] (OSh.enc (OSh.plain (.slt [Kd.s, Kd.s, Kd.s, Kd.sl [Kd.b, Kd.i IntKind.i64, Kd.s]] 0) []) y) :=
  auto_okM tm_std (with_ok mixed (by kernel_rfl) (ref04_Minus_σok n) n 0 [1000067, 1000069]) (with_pick mixed (by kernel_rfl) (ref04_Minus_σok n) n 0 [1000067, 1000069]) mixed Try.func35 (by decide) (o := (OSh.plain (.slt [Kd.s, Kd.s, Kd.s, Kd.sl [Kd.b, Kd.i IntKind.i64, Kd.s]] 0) [])) h
/-! fact_Same_1: function 75 -/
def fact_Same_1_lv : Live := []
noncomputable def fact_Same_1_σ (n : Nat) : Spec := (inst 20 [.agg [.s, .s, .s, .sl [Kd.b, Kd.i IntKind.i64, Kd.s]], .agg [.s, .s, .s, .sl [Kd.b, Kd.i IntKind.i64, Kd.s]]] [] (OSh.plain (.i IntKind.i64) []) (fun x e => fact_Order_v n x.1.1 x.1.2.1 x.1.2.2.1 x.1.2.2.2.1.1 x.1.2.2.2.1.2 x.2.1.1 x.2.1.2.1 x.2.1.2.2.1 x.2.1.2.2.2.1.1 x.2.1.2.2.2.1.2) Spec.none)
theorem fact_Same_1_σok (n : Nat) : SpecOk Try.prog (fact_Same_1_σ n) := (inst_ok (fun x e y h => fact_Order_c n x.1.1 x.1.2.1 x.1.2.2.1 x.1.2.2.2.1.1 x.1.2.2.2.1.2 x.2.1.1 x.2.1.2.1 x.2.1.2.2.1 x.2.1.2.2.2.1.1 x.2.1.2.2.2.1.2 y h) (SpecOk.none _))
noncomputable def fact_Same_1_Φ (n : Nat) : Orc := with_ Try.prog (fact_Same_1_σ n) [] n 0 [1000067, 1000069]
noncomputable def fact_Same_1_v (n : Nat) (s0 : ByteArray) (s1 : ByteArray) (s2 : ByteArray) (b3 : Bool) (r4 : Rows) (s5 : ByteArray) (s6 : ByteArray) (s7 : ByteArray) (b8 : Bool) (r9 : Rows) : Option (Bool × Unit) :=
  DM.denFn tm (fact_Same_1_Φ n) fact_Same_1_lv n Try.f75 false [AV.agg [AV.dv (DV.val (Value.string s0)), AV.dv (DV.val (Value.string s1)), AV.dv (DV.val (Value.string s2)), AV.sl b3 [Kd.b, Kd.i IntKind.i64, Kd.s] r4 Right.no], AV.agg [AV.dv (DV.val (Value.string s5)), AV.dv (DV.val (Value.string s6)), AV.dv (DV.val (Value.string s7)), AV.sl b8 [Kd.b, Kd.i IntKind.i64, Kd.s] r9 Right.no]] [] (OSh.chk (OSh.plain (.b) []))
theorem fact_Same_1_e (n : Nat) (s0 : ByteArray) (s1 : ByteArray) (s2 : ByteArray) (b3 : Bool) (r4 : Rows) (s5 : ByteArray) (s6 : ByteArray) (s7 : ByteArray) (b8 : Bool) (r9 : Rows) : fact_Same_1_v n s0 s1 s2 b3 r4 s5 s6 s7 b8 r9 =
  obind (fact_Order_v n s0 s1 s2 b3 r4 s5 s6 s7 b8 r9) fun y10 =>
  some (y10.fst == 0, ()) := by kernel_rfl
theorem fact_Same_1_c (n : Nat) (s0 : ByteArray) (s1 : ByteArray) (s2 : ByteArray) (b3 : Bool) (r4 : Rows) (s5 : ByteArray) (s6 : ByteArray) (s7 : ByteArray) (b8 : Bool) (r9 : Rows) (y : Bool × Unit) (h : fact_Same_1_v n s0 s1 s2 b3 r4 s5 s6 s7 b8 r9 = some y) : Contract Try.prog 75 [AV.agg [AV.dv (DV.val (Value.string s0)), AV.dv (DV.val (Value.string s1)), AV.dv (DV.val (Value.string s2)), AV.sl b3 [Kd.b, Kd.i IntKind.i64, Kd.s] r4 Right.no], AV.agg [AV.dv (DV.val (Value.string s5)), AV.dv (DV.val (Value.string s6)), AV.dv (DV.val (Value.string s7)), AV.sl b8 [Kd.b, Kd.i IntKind.i64, Kd.s] r9 Right.no]] [] (OSh.enc (OSh.plain (.b) []) y) :=
  auto_okM tm_std (with_ok mixed (by kernel_rfl) (fact_Same_1_σok n) n 0 [1000067, 1000069]) (with_pick mixed (by kernel_rfl) (fact_Same_1_σok n) n 0 [1000067, 1000069]) mixed Try.func75 (by decide) (o := (OSh.plain (.b) [])) h
/-! slices_EqualFunc: function 74 -/
def slices_EqualFunc_fact_Same_1_lv : Live := [(4, [1, 2, 15, 16, 17], [1000, 1001, 1002, 1003])]
noncomputable def slices_EqualFunc_fact_Same_1_σ (n : Nat) : Spec := (inst 75 [.agg [.s, .s, .s, .sl [Kd.b, Kd.i IntKind.i64, Kd.s]], .agg [.s, .s, .s, .sl [Kd.b, Kd.i IntKind.i64, Kd.s]]] [] (OSh.plain (.b) []) (fun x e => fact_Same_1_v n x.1.1 x.1.2.1 x.1.2.2.1 x.1.2.2.2.1.1 x.1.2.2.2.1.2 x.2.1.1 x.2.1.2.1 x.2.1.2.2.1 x.2.1.2.2.2.1.1 x.2.1.2.2.2.1.2) Spec.none)
theorem slices_EqualFunc_fact_Same_1_σok (n : Nat) : SpecOk Try.prog (slices_EqualFunc_fact_Same_1_σ n) := (inst_ok (fun x e y h => fact_Same_1_c n x.1.1 x.1.2.1 x.1.2.2.1 x.1.2.2.2.1.1 x.1.2.2.2.1.2 x.2.1.1 x.2.1.2.1 x.2.1.2.2.1 x.2.1.2.2.2.1.1 x.2.1.2.2.2.1.2 y h) (SpecOk.none _))
noncomputable def slices_EqualFunc_fact_Same_1_Φ (n : Nat) : Orc := with_ Try.prog (slices_EqualFunc_fact_Same_1_σ n) [] n 0 [1000067, 1000069]
noncomputable def slices_EqualFunc_fact_Same_1_v (n : Nat) (b0 : Bool) (r1 : Rows) (b2 : Bool) (r3 : Rows) : Option (Bool × Unit) :=
  DM.denFn tm (slices_EqualFunc_fact_Same_1_Φ n) slices_EqualFunc_fact_Same_1_lv n Try.f74 false [AV.sl b0 [Kd.s, Kd.s, Kd.s, Kd.sl [Kd.b, Kd.i IntKind.i64, Kd.s]] r1 Right.no, AV.sl b2 [Kd.s, Kd.s, Kd.s, Kd.sl [Kd.b, Kd.i IntKind.i64, Kd.s]] r3 Right.no, AV.fn 75 []] [] (OSh.chk (OSh.plain (.b) []))
noncomputable def slices_EqualFunc_fact_Same_1_l4 (n : Nat) (b0 : Bool) (r1 : Rows) (b2 : Bool) (r3 : Rows) (i0 : Nat) (j5 : Int) : Option (Bool × Unit) :=
  DM.loopFn tm (slices_EqualFunc_fact_Same_1_Φ n) slices_EqualFunc_fact_Same_1_lv n Try.f74 false [] (OSh.chk (OSh.plain (.b) [])) 4 [] i0 (St.mk [AV.junk, AV.sl b2 [Kd.s, Kd.s, Kd.s, Kd.sl [Kd.b, Kd.i IntKind.i64, Kd.s]] r3 Right.no, AV.fn 75 [], AV.junk, AV.junk, AV.junk, AV.junk, AV.junk, AV.junk, AV.junk, AV.junk, AV.junk, AV.junk, AV.junk, AV.junk, AV.sl b0 [Kd.s, Kd.s, Kd.s, Kd.sl [Kd.b, Kd.i IntKind.i64, Kd.s]] r1 Right.no, AV.dv (DV.val (Value.int IntKind.i64 (↑(List.length r1) : Int))), AV.dv (DV.val (Value.int IntKind.i64 j5)), AV.junk, AV.junk, AV.junk, AV.junk, AV.junk, AV.junk, AV.junk, AV.junk, AV.junk, AV.junk, AV.junk, AV.junk, AV.junk, AV.junk] [])
theorem slices_EqualFunc_fact_Same_1_s4 (n : Nat) (b0 : Bool) (r1 : Rows) (b2 : Bool) (r3 : Rows) (i0 : Nat) (j5 : Int) : slices_EqualFunc_fact_Same_1_l4 n b0 r1 b2 r3 (i0 + 1) j5 =
  bif decide (j5 < (↑(List.length r1) : Int)) then
    if 0 ≤ j5 then
      if j5 < (↑(List.length r1) : Int) then
        if 0 ≤ j5 then
          if j5 < (↑(List.length r3) : Int) then
            obind (fact_Same_1_v n (Row.S (List.getD r1 (Int.toNat j5) []) 0) (Row.S (List.getD r1 (Int.toNat j5) []) 1) (Row.S (List.getD r1 (Int.toNat j5) []) 2) (Row.N (List.getD r1 (Int.toNat j5) []) 3) (Row.R (List.getD r1 (Int.toNat j5) []) 3) (Row.S (List.getD r3 (Int.toNat j5) []) 0) (Row.S (List.getD r3 (Int.toNat j5) []) 1) (Row.S (List.getD r3 (Int.toNat j5) []) 2) (Row.N (List.getD r3 (Int.toNat j5) []) 3) (Row.R (List.getD r3 (Int.toNat j5) []) 3)) fun y6 =>
            bif !y6.fst then
              some (false, ())
            else slices_EqualFunc_fact_Same_1_l4 n b0 r1 b2 r3 i0 (IntKind.wrap IntKind.i64 (j5 + 1))
          else none
        else none
      else none
    else none
  else some (true, ()) := by kernel_rfl
theorem slices_EqualFunc_fact_Same_1_e (n : Nat) (b0 : Bool) (r1 : Rows) (b2 : Bool) (r3 : Rows) : slices_EqualFunc_fact_Same_1_v n b0 r1 b2 r3 =
  bif (↑(List.length r1) : Int) != (↑(List.length r3) : Int) then
    some (false, ())
  else slices_EqualFunc_fact_Same_1_l4 n b0 r1 b2 r3 n 0 := by kernel_rfl
theorem slices_EqualFunc_fact_Same_1_c (n : Nat) (b0 : Bool) (r1 : Rows) (b2 : Bool) (r3 : Rows) (y : Bool × Unit) (h : slices_EqualFunc_fact_Same_1_v n b0 r1 b2 r3 = some y) : Contract Try.prog 74 [AV.sl b0 [Kd.s, Kd.s, Kd.s, Kd.sl [Kd.b, Kd.i IntKind.i64, Kd.s]] r1 Right.no, AV.sl b2 [Kd.s, Kd.s, Kd.s, Kd.sl [Kd.b, Kd.i IntKind.i64, Kd.s]] r3 Right.no, AV.fn 75 []] [] (OSh.enc (OSh.plain (.b) []) y) :=
  auto_okM tm_std (with_ok mixed (by kernel_rfl) (slices_EqualFunc_fact_Same_1_σok n) n 0 [1000067, 1000069]) (with_pick mixed (by kernel_rfl) (slices_EqualFunc_fact_Same_1_σok n) n 0 [1000067, 1000069]) mixed Try.func74 (by decide) (o := (OSh.plain (.b) [])) h
/-! fact_Same: function 36 -/
def fact_Same_lv : Live := []
noncomputable def fact_Same_σ (n : Nat) : Spec := (inst 23 [.sl [Kd.s, Kd.s, Kd.s, Kd.sl [Kd.b, Kd.i IntKind.i64, Kd.s]]] [] (OSh.plain (.slt [Kd.s, Kd.s, Kd.s, Kd.sl [Kd.b, Kd.i IntKind.i64, Kd.s]] 0) []) (fun x e => fact_Sorted_v n x.1.1 x.1.2) (inst 74 [.sl [Kd.s, Kd.s, Kd.s, Kd.sl [Kd.b, Kd.i IntKind.i64, Kd.s]], .sl [Kd.s, Kd.s, Kd.s, Kd.sl [Kd.b, Kd.i IntKind.i64, Kd.s]], .fn 75 []] [] (OSh.plain (.b) []) (fun x e => slices_EqualFunc_fact_Same_1_v n x.1.1 x.1.2 x.2.1.1 x.2.1.2) Spec.none))
theorem fact_Same_σok (n : Nat) : SpecOk Try.prog (fact_Same_σ n) := (inst_ok (fun x e y h => fact_Sorted_c n x.1.1 x.1.2 y h) (inst_ok (fun x e y h => slices_EqualFunc_fact_Same_1_c n x.1.1 x.1.2 x.2.1.1 x.2.1.2 y h) (SpecOk.none _)))
noncomputable def fact_Same_Φ (n : Nat) : Orc := with_ Try.prog (fact_Same_σ n) [] n 0 [1000067, 1000069]
noncomputable def fact_Same_v (n : Nat) (b0 : Bool) (r1 : Rows) (b2 : Bool) (r3 : Rows) : Option (Bool × Unit) :=
  DM.denFn tm (fact_Same_Φ n) fact_Same_lv n Try.f36 false [AV.sl b0 [Kd.s, Kd.s, Kd.s, Kd.sl [Kd.b, Kd.i IntKind.i64, Kd.s]] r1 Right.no, AV.sl b2 [Kd.s, Kd.s, Kd.s, Kd.sl [Kd.b, Kd.i IntKind.i64, Kd.s]] r3 Right.no] [] (OSh.chk (OSh.plain (.b) []))
theorem fact_Same_e (n : Nat) (b0 : Bool) (r1 : Rows) (b2 : Bool) (r3 : Rows) : fact_Same_v n b0 r1 b2 r3 =
  obind (fact_Sorted_v n b0 r1) fun y4 =>
  obind (fact_Sorted_v n b2 r3) fun y5 =>
  obind (slices_EqualFunc_fact_Same_1_v n y4.fst.fst y4.fst.snd y5.fst.fst y5.fst.snd) fun y6 =>
  some (y6.fst, ()) := by kernel_rfl
theorem fact_Same_c (n : Nat) (b0 : Bool) (r1 : Rows) (b2 : Bool) (r3 : Rows) (y : Bool × Unit) (h : fact_Same_v n b0 r1 b2 r3 = some y) : Contract Try.prog 36 [AV.sl b0 [Kd.s, Kd.s, Kd.s, Kd.sl [Kd.b, Kd.i IntKind.i64, Kd.s]] r1 Right.no, AV.sl b2 [Kd.s, Kd.s, Kd.s, Kd.sl [Kd.b, Kd.i IntKind.i64, Kd.s]] r3 Right.no] [] (OSh.enc (OSh.plain (.b) []) y) :=
  auto_okM tm_std (with_ok mixed (by kernel_rfl) (fact_Same_σok n) n 0 [1000067, 1000069]) (with_pick mixed (by kernel_rfl) (fact_Same_σok n) n 0 [1000067, 1000069]) mixed Try.func36 (by decide) (o := (OSh.plain (.b) [])) h
/-! law04_FactSets: function 8 -/
def law04_FactSets_lv : Live := []
noncomputable def law04_FactSets_σ (n : Nat) : Spec := (inst 21 [.sl [Kd.s, Kd.s, Kd.s, Kd.sl [Kd.b, Kd.i IntKind.i64, Kd.s]], .i IntKind.i64] [] (OSh.plain (.i IntKind.i64) []) (fun x e => ref04_Weight_v n x.1.1 x.1.2 x.2.1) (inst 19 [] [] (OSh.plain (.b) []) (fun x e => law04_live_v n) (inst 22 [.sl [Kd.s, Kd.s, Kd.s, Kd.sl [Kd.b, Kd.i IntKind.i64, Kd.s]]] [] (OSh.plain (.slt [Kd.s, Kd.s, Kd.s, Kd.sl [Kd.b, Kd.i IntKind.i64, Kd.s]] 0) []) (fun x e => ref04_Copy_v n x.1.1 x.1.2) (inst 25 [.sl [Kd.s, Kd.s, Kd.s, Kd.sl [Kd.b, Kd.i IntKind.i64, Kd.s]]] [] (OSh.plain (.slt [Kd.s, Kd.s, Kd.s, Kd.sl [Kd.b, Kd.i IntKind.i64, Kd.s]] 0) []) (fun x e => ref04_Sorted_v n x.1.1 x.1.2) (inst 24 [.sl [Kd.s, Kd.s, Kd.s, Kd.sl [Kd.b, Kd.i IntKind.i64, Kd.s]], .sl [Kd.s, Kd.s, Kd.s, Kd.sl [Kd.b, Kd.i IntKind.i64, Kd.s]]] [] (OSh.plain (.b) []) (fun x e => ref04_Like_v n x.1.1 x.1.2 x.2.1.1 x.2.1.2) (inst 32 [.sl [Kd.s, Kd.s, Kd.s, Kd.sl [Kd.b, Kd.i IntKind.i64, Kd.s]], .agg [.s, .s, .s, .sl [Kd.b, Kd.i IntKind.i64, Kd.s]]] [] (OSh.plain (.b) []) (fun x e => fact_Has_v n x.1.1 x.1.2 x.2.1.1 x.2.1.2.1 x.2.1.2.2.1 x.2.1.2.2.2.1.1 x.2.1.2.2.2.1.2) (inst 33 [.sl [Kd.s, Kd.s, Kd.s, Kd.sl [Kd.b, Kd.i IntKind.i64, Kd.s]], .agg [.s, .s, .s, .sl [Kd.b, Kd.i IntKind.i64, Kd.s]]] [] (OSh.plain (.b) []) (fun x e => ref04_Has_v n x.1.1 x.1.2 x.2.1.1 x.2.1.2.1 x.2.1.2.2.1 x.2.1.2.2.2.1.1 x.2.1.2.2.2.1.2) (inst 34 [.sl [Kd.s, Kd.s, Kd.s, Kd.sl [Kd.b, Kd.i IntKind.i64, Kd.s]], .sl [Kd.s, Kd.s, Kd.s, Kd.sl [Kd.b, Kd.i IntKind.i64, Kd.s]]] [] (OSh.plain (.sl [Kd.s, Kd.s, Kd.s, Kd.sl [Kd.b, Kd.i IntKind.i64, Kd.s]]) []) (fun x e => fact_Minus_v n x.1.1 x.1.2 x.2.1.1 x.2.1.2) (inst 35 [.sl [Kd.s, Kd.s, Kd.s, Kd.sl [Kd.b, Kd.i IntKind.i64, Kd.s]], .sl [Kd.s, Kd.s, Kd.s, Kd.sl [Kd.b, Kd.i IntKind.i64, Kd.s]]] [] (OSh.plain (.slt [Kd.s, Kd.s, Kd.s, Kd.sl [Kd.b, Kd.i IntKind.i64, Kd.s]] 0) []) (fun x e => ref04_Minus_v n x.1.1 x.1.2 x.2.1.1 x.2.1.2) (inst 36 [.sl [Kd.s, Kd.s, Kd.s, Kd.sl [Kd.b, Kd.i IntKind.i64, Kd.s]], .sl [Kd.s, Kd.s, Kd.s, Kd.sl [Kd.b, Kd.i IntKind.i64, Kd.s]]] [] (OSh.plain (.b) []) (fun x e => fact_Same_v n x.1.1 x.1.2 x.2.1.1 x.2.1.2) Spec.none))))))))))
theorem law04_FactSets_σok (n : Nat) : SpecOk Try.prog (law04_FactSets_σ n) := (inst_ok (fun x e y h => ref04_Weight_c n x.1.1 x.1.2 x.2.1 y h) (inst_ok (fun x e y h => law04_live_c n y h) (inst_ok (fun x e y h => ref04_Copy_c n x.1.1 x.1.2 y h) (inst_ok (fun x e y h => ref04_Sorted_c n x.1.1 x.1.2 y h) (inst_ok (fun x e y h => ref04_Like_c n x.1.1 x.1.2 x.2.1.1 x.2.1.2 y h) (inst_ok (fun x e y h => fact_Has_c n x.1.1 x.1.2 x.2.1.1 x.2.1.2.1 x.2.1.2.2.1 x.2.1.2.2.2.1.1 x.2.1.2.2.2.1.2 y h) (inst_ok (fun x e y h => ref04_Has_c n x.1.1 x.1.2 x.2.1.1 x.2.1.2.1 x.2.1.2.2.1 x.2.1.2.2.2.1.1 x.2.1.2.2.2.1.2 y h) (inst_ok (fun x e y h => fact_Minus_c n x.1.1 x.1.2 x.2.1.1 x.2.1.2 y h) (inst_ok (fun x e y h => ref04_Minus_c n x.1.1 x.1.2 x.2.1.1 x.2.1.2 y h) (inst_ok (fun x e y h => fact_Same_c n x.1.1 x.1.2 x.2.1.1 x.2.1.2 y h) (SpecOk.none _)))))))))))
noncomputable def law04_FactSets_Φ (n : Nat) : Orc := with_ Try.prog (law04_FactSets_σ n) [] n 0 [1000067, 1000069]
noncomputable def law04_FactSets_v (n : Nat) (b0 : Bool) (r1 : Rows) (b2 : Bool) (r3 : Rows) (s4 : ByteArray) (s5 : ByteArray) (s6 : ByteArray) (b7 : Bool) (r8 : Rows) : Option (Bool × Unit) :=
  DM.denFn tm (law04_FactSets_Φ n) law04_FactSets_lv n Try.f8 false [AV.sl b0 [Kd.s, Kd.s, Kd.s, Kd.sl [Kd.b, Kd.i IntKind.i64, Kd.s]] r1 Right.no, AV.sl b2 [Kd.s, Kd.s, Kd.s, Kd.sl [Kd.b, Kd.i IntKind.i64, Kd.s]] r3 Right.no, AV.agg [AV.dv (DV.val (Value.string s4)), AV.dv (DV.val (Value.string s5)), AV.dv (DV.val (Value.string s6)), AV.sl b7 [Kd.b, Kd.i IntKind.i64, Kd.s] r8 Right.no]] [] (OSh.chk (OSh.plain (.b) []))
theorem law04_FactSets_e (n : Nat) (b0 : Bool) (r1 : Rows) (b2 : Bool) (r3 : Rows) (s4 : ByteArray) (s5 : ByteArray) (s6 : ByteArray) (b7 : Bool) (r8 : Rows) : law04_FactSets_v n b0 r1 b2 r3 s4 s5 s6 b7 r8 =
  obind (ref04_Weight_v n b0 r1 200) fun y9 =>
  bif decide (y9.fst > 200) then
    obind (law04_live_v n) fun y10 =>
    some (y10.fst, ())
  else obind (ref04_Weight_v n b2 r3 200) fun y11 =>
  bif decide (y11.fst > 200) then
    obind (law04_live_v n) fun y12 =>
    some (y12.fst, ())
  else obind (ref04_Copy_v n b0 r1) fun y13 =>
  obind (ref04_Sorted_v n b0 r1) fun y14 =>
  obind (ref04_Sorted_v n b2 r3) fun y15 =>
  obind (ref04_Like_v n y14.fst.fst y14.fst.snd y15.fst.fst y15.fst.snd) fun y16 =>
  obind (fact_Has_v n y13.fst.fst y13.fst.snd s4 s5 s6 b7 r8) fun y17 =>
  obind (ref04_Has_v n b0 r1 s4 s5 s6 b7 r8) fun y18 =>
  bif y17.fst == y18.fst then
    obind (fact_Minus_v n y13.fst.fst y13.fst.snd b2 r3) fun y19 =>
    obind (ref04_Minus_v n b0 r1 b2 r3) fun y20 =>
    obind (ref04_Like_v n y19.fst.fst y19.fst.snd y20.fst.fst y20.fst.snd) fun y21 =>
    bif y21.fst then
      obind (fact_Same_v n y13.fst.fst y13.fst.snd b2 r3) fun y22 =>
      bif y22.fst == y16.fst then
        obind (ref04_Like_v n y13.fst.fst y13.fst.snd b0 r1) fun y23 =>
        bif y23.fst then
          obind (law04_live_v n) fun y24 =>
          some (y24.fst, ())
        else some (false, ())
      else some (false, ())
    else some (false, ())
  else some (false, ()) := by kernel_rfl
theorem law04_FactSets_c (n : Nat) (b0 : Bool) (r1 : Rows) (b2 : Bool) (r3 : Rows) (s4 : ByteArray) (s5 : ByteArray) (s6 : ByteArray) (b7 : Bool) (r8 : Rows) (y : Bool × Unit) (h : law04_FactSets_v n b0 r1 b2 r3 s4 s5 s6 b7 r8 = some y) : Contract Try.prog 8 [AV.sl b0 [Kd.s, Kd.s, Kd.s, Kd.sl [Kd.b, Kd.i IntKind.i64, Kd.s]] r1 Right.no, AV.sl b2 [Kd.s, Kd.s, Kd.s, Kd.sl [Kd.b, Kd.i IntKind.i64, Kd.s]] r3 Right.no, AV.agg [AV.dv (DV.val (Value.string s4)), AV.dv (DV.val (Value.string s5)), AV.dv (DV.val (Value.string s6)), AV.sl b7 [Kd.b, Kd.i IntKind.i64, Kd.s] r8 Right.no]] [] (OSh.enc (OSh.plain (.b) []) y) :=
  auto_okM tm_std (with_ok mixed (by kernel_rfl) (law04_FactSets_σok n) n 0 [1000067, 1000069]) (with_pick mixed (by kernel_rfl) (law04_FactSets_σok n) n 0 [1000067, 1000069]) mixed Try.func8 (by decide) (o := (OSh.plain (.b) [])) h
/-! law04_FactOwns: function 6 -/
def law04_FactOwns_lv : Live := [(4, [0, 1, 2, 7, 8, 9], [8, 1000, 1001, 1002, 1003]), (1000006, [0, 7, 7], []), (1000005, [1, 7], []), (999999, [], [])]
noncomputable def law04_FactOwns_σ (n : Nat) : Spec := (inst 27 [.s, .s, .sl [Kd.b, Kd.i IntKind.i64, Kd.s]] [] (OSh.plain (.agg [.s, .s, .s, .slt [Kd.b, Kd.i IntKind.i64, Kd.s] 3]) []) (fun x e => fact_Own_v n x.1 x.2.1 x.2.2.1.1 x.2.2.1.2) (inst 28 [.i IntKind.i64] [] (OSh.plain (.agg [.b, .i IntKind.i64, .s]) []) (fun x e => law04_num_v n x.1) (inst 29 [.agg [.s, .s, .s, .sl [Kd.b, Kd.i IntKind.i64, Kd.s]], .agg [.s, .s, .s, .sl [Kd.b, Kd.i IntKind.i64, Kd.s]]] [] (OSh.plain (.i IntKind.i64) []) (fun x e => ref04_Order_v n x.1.1 x.1.2.1 x.1.2.2.1 x.1.2.2.2.1.1 x.1.2.2.2.1.2 x.2.1.1 x.2.1.2.1 x.2.1.2.2.1 x.2.1.2.2.2.1.1 x.2.1.2.2.2.1.2) (inst 19 [] [] (OSh.plain (.b) []) (fun x e => law04_live_v n) Spec.none))))
theorem law04_FactOwns_σok (n : Nat) : SpecOk Try.prog (law04_FactOwns_σ n) := (inst_ok (fun x e y h => fact_Own_c n x.1 x.2.1 x.2.2.1.1 x.2.2.1.2 y h) (inst_ok (fun x e y h => law04_num_c n x.1 y h) (inst_ok (fun x e y h => ref04_Order_c n x.1.1 x.1.2.1 x.1.2.2.1 x.1.2.2.2.1.1 x.1.2.2.2.1.2 x.2.1.1 x.2.1.2.1 x.2.1.2.2.1 x.2.1.2.2.2.1.1 x.2.1.2.2.2.1.2 y h) (inst_ok (fun x e y h => law04_live_c n y h) (SpecOk.none _)))))
noncomputable def law04_FactOwns_Φ (n : Nat) : Orc := with_ Try.prog (law04_FactOwns_σ n) [] n 0 [1000067, 1000069]
noncomputable def law04_FactOwns_v (n : Nat) (s0 : ByteArray) (s1 : ByteArray) (b2 : Bool) (r3 : Rows) : Option (Bool × Unit) :=
  DM.denFn tm (law04_FactOwns_Φ n) law04_FactOwns_lv n Try.f6 false [AV.dv (DV.val (Value.string s0)), AV.dv (DV.val (Value.string s1)), AV.sl b2 [Kd.b, Kd.i IntKind.i64, Kd.s] r3 Right.no] [] (OSh.chk (OSh.plain (.b) []))
noncomputable def law04_FactOwns_l4 (n : Nat) (s0 : ByteArray) (s1 : ByteArray) (b2 : Bool) (r3 : Rows) (i0 : Nat) (s5 : ByteArray) (s6 : ByteArray) (s7 : ByteArray) (b8 : Bool) (r9 : List (List DV)) (b14 : Bool) (r15 : List (List DV)) (j16 : Int) : Option (Bool × Unit) :=
  DM.loopFn tm (law04_FactOwns_Φ n) law04_FactOwns_lv n Try.f6 false [] (OSh.chk (OSh.plain (.b) [])) 4 [] i0 (St.mk [AV.dv (DV.val (Value.string s0)), AV.dv (DV.val (Value.string s1)), AV.sl b2 [Kd.b, Kd.i IntKind.i64, Kd.s] r3 Right.old, AV.junk, AV.junk, AV.junk, AV.junk, AV.sl b14 [Kd.b, Kd.i IntKind.i64, Kd.s] r15 (Right.tok 7), AV.pl 8 0, AV.dv (DV.val (Value.int IntKind.i64 j16)), AV.junk, AV.junk, AV.junk, AV.junk, AV.junk, AV.junk, AV.junk, AV.junk, AV.junk, AV.junk, AV.junk, AV.junk, AV.junk, AV.junk, AV.junk, AV.junk, AV.junk, AV.junk, AV.junk, AV.junk, AV.junk, AV.junk, AV.junk, AV.junk, AV.junk, AV.junk, AV.junk, AV.junk] [(8, [AV.dv (DV.val (Value.string s5)), AV.dv (DV.val (Value.string s6)), AV.dv (DV.val (Value.string s7)), AV.sl b8 [Kd.b, Kd.i IntKind.i64, Kd.s] r9 (Right.tok 20515)])])
theorem law04_FactOwns_s4 (n : Nat) (s0 : ByteArray) (s1 : ByteArray) (b2 : Bool) (r3 : Rows) (i0 : Nat) (s5 : ByteArray) (s6 : ByteArray) (s7 : ByteArray) (b8 : Bool) (r9 : List (List DV)) (b14 : Bool) (r15 : List (List DV)) (j16 : Int) : law04_FactOwns_l4 n s0 s1 b2 r3 (i0 + 1) s5 s6 s7 b8 r9 b14 r15 j16 =
  bif decide (j16 < (↑(List.length r15) : Int)) then
    bif b14 || List.isEmpty r15 then
      obind (law04_num_v n (-99)) fun y17 =>
      if 0 ≤ j16 then
        if j16 < (↑0 : Int) then
          none
        else none
      else none
    else obind (law04_num_v n (-99)) fun y18 =>
    if 0 ≤ j16 then
      if j16 < (↑(List.length r15) : Int) then
        if 0 + Int.toNat j16 < List.length r15 then
          if 0 + List.length r15 ≤ List.length (List.set r15 (0 + Int.toNat j16) (DV.val (Value.bool y18.fst.fst) :: DV.val (Value.int IntKind.i64 y18.fst.snd.fst) :: DV.val (Value.string y18.fst.snd.snd.fst) :: List.drop (0 + List.length [DV.val (Value.bool y18.fst.fst), DV.val (Value.int IntKind.i64 y18.fst.snd.fst), DV.val (Value.string y18.fst.snd.snd.fst)]) (List.getD r15 (0 + Int.toNat j16) []))) then
            law04_FactOwns_l4 n s0 s1 b2 r3 i0 s5 s6 s7 b8 r9 false (List.take (List.length r15) (List.drop 0 (List.set r15 (0 + Int.toNat j16) (DV.val (Value.bool y18.fst.fst) :: DV.val (Value.int IntKind.i64 y18.fst.snd.fst) :: DV.val (Value.string y18.fst.snd.snd.fst) :: List.drop (0 + List.length [DV.val (Value.bool y18.fst.fst), DV.val (Value.int IntKind.i64 y18.fst.snd.fst), DV.val (Value.string y18.fst.snd.snd.fst)]) (List.getD r15 (0 + Int.toNat j16) []))))) (IntKind.wrap IntKind.i64 (j16 + 1))
          else none
        else none
      else none
    else none
  else obind (ref04_Order_v n s5 s6 s7 b8 r9 s0 s0 s1 b2 r3) fun y19 =>
  bif y19.fst == 0 then
    obind (law04_live_v n) fun y20 =>
    some (y20.fst, ())
  else some (false, ()) := by kernel_rfl
theorem law04_FactOwns_e (n : Nat) (s0 : ByteArray) (s1 : ByteArray) (b2 : Bool) (r3 : Rows) : law04_FactOwns_v n s0 s1 b2 r3 =
  if (0 + List.length r3) * 32 ≤ 140737488355328 then
    obind (fact_Own_v n s0 s1 (false && List.isEmpty r3) (appX [] r3)) fun y4 =>
    law04_FactOwns_l4 n s0 s1 b2 r3 n y4.fst.fst y4.fst.snd.fst y4.fst.snd.snd.fst y4.fst.snd.snd.snd.fst.fst y4.fst.snd.snd.snd.fst.snd (false && List.isEmpty r3) (appX [] r3) 0
  else none := by kernel_rfl
theorem law04_FactOwns_c (n : Nat) (s0 : ByteArray) (s1 : ByteArray) (b2 : Bool) (r3 : Rows) (y : Bool × Unit) (h : law04_FactOwns_v n s0 s1 b2 r3 = some y) : Contract Try.prog 6 [AV.dv (DV.val (Value.string s0)), AV.dv (DV.val (Value.string s1)), AV.sl b2 [Kd.b, Kd.i IntKind.i64, Kd.s] r3 Right.no] [] (OSh.enc (OSh.plain (.b) []) y) :=
  auto_okM tm_std (with_ok mixed (by kernel_rfl) (law04_FactOwns_σok n) n 0 [1000067, 1000069]) (with_pick mixed (by kernel_rfl) (law04_FactOwns_σok n) n 0 [1000067, 1000069]) mixed Try.func6 (by decide) (o := (OSh.plain (.b) [])) h
/-! law04_FactParts: function 9 -/
def law04_FactParts_lv : Live := [(6, [0, 1, 5, 6, 7], [1000, 1001, 1002, 1003]), (11, [0, 1, 5, 6, 8], [1000, 1001, 1002, 1003])]
noncomputable def law04_FactParts_σ (n : Nat) : Spec := (inst 21 [.sl [Kd.s, Kd.s, Kd.s, Kd.sl [Kd.b, Kd.i IntKind.i64, Kd.s]], .i IntKind.i64] [] (OSh.plain (.i IntKind.i64) []) (fun x e => ref04_Weight_v n x.1.1 x.1.2 x.2.1) (inst 19 [] [] (OSh.plain (.b) []) (fun x e => law04_live_v n) (inst 34 [.sl [Kd.s, Kd.s, Kd.s, Kd.sl [Kd.b, Kd.i IntKind.i64, Kd.s]], .sl [Kd.s, Kd.s, Kd.s, Kd.sl [Kd.b, Kd.i IntKind.i64, Kd.s]]] [] (OSh.plain (.sl [Kd.s, Kd.s, Kd.s, Kd.sl [Kd.b, Kd.i IntKind.i64, Kd.s]]) []) (fun x e => fact_Minus_v n x.1.1 x.1.2 x.2.1.1 x.2.1.2) (inst 32 [.sl [Kd.s, Kd.s, Kd.s, Kd.sl [Kd.b, Kd.i IntKind.i64, Kd.s]], .agg [.s, .s, .s, .sl [Kd.b, Kd.i IntKind.i64, Kd.s]]] [] (OSh.plain (.b) []) (fun x e => fact_Has_v n x.1.1 x.1.2 x.2.1.1 x.2.1.2.1 x.2.1.2.2.1 x.2.1.2.2.2.1.1 x.2.1.2.2.2.1.2) (inst 36 [.sl [Kd.s, Kd.s, Kd.s, Kd.sl [Kd.b, Kd.i IntKind.i64, Kd.s]], .sl [Kd.s, Kd.s, Kd.s, Kd.sl [Kd.b, Kd.i IntKind.i64, Kd.s]]] [] (OSh.plain (.b) []) (fun x e => fact_Same_v n x.1.1 x.1.2 x.2.1.1 x.2.1.2) Spec.none)))))
theorem law04_FactParts_σok (n : Nat) : SpecOk Try.prog (law04_FactParts_σ n) := (inst_ok (fun x e y h => ref04_Weight_c n x.1.1 x.1.2 x.2.1 y h) (inst_ok (fun x e y h => law04_live_c n y h) (inst_ok (fun x e y h => fact_Minus_c n x.1.1 x.1.2 x.2.1.1 x.2.1.2 y h) (inst_ok (fun x e y h => fact_Has_c n x.1.1 x.1.2 x.2.1.1 x.2.1.2.1 x.2.1.2.2.1 x.2.1.2.2.2.1.1 x.2.1.2.2.2.1.2 y h) (inst_ok (fun x e y h => fact_Same_c n x.1.1 x.1.2 x.2.1.1 x.2.1.2 y h) (SpecOk.none _))))))
noncomputable def law04_FactParts_Φ (n : Nat) : Orc := with_ Try.prog (law04_FactParts_σ n) [] n 0 [1000067, 1000069]
noncomputable def law04_FactParts_v (n : Nat) (b0 : Bool) (r1 : Rows) (b2 : Bool) (r3 : Rows) : Option (Bool × Unit) :=
  DM.denFn tm (law04_FactParts_Φ n) law04_FactParts_lv n Try.f9 false [AV.sl b0 [Kd.s, Kd.s, Kd.s, Kd.sl [Kd.b, Kd.i IntKind.i64, Kd.s]] r1 Right.no, AV.sl b2 [Kd.s, Kd.s, Kd.s, Kd.sl [Kd.b, Kd.i IntKind.i64, Kd.s]] r3 Right.no] [] (OSh.chk (OSh.plain (.b) []))
noncomputable def law04_FactParts_l6 (n : Nat) (b0 : Bool) (r1 : Rows) (b2 : Bool) (r3 : Rows) (i0 : Nat) (b10 : Bool) (r11 : List (List DV)) (b12 : Bool) (r13 : List (List DV)) (j16 : Int) : Option (Bool × Unit) :=
  DM.loopFn tm (law04_FactParts_Φ n) law04_FactParts_lv n Try.f9 false [] (OSh.chk (OSh.plain (.b) [])) 6 [] i0 (St.mk [AV.sl b0 [Kd.s, Kd.s, Kd.s, Kd.sl [Kd.b, Kd.i IntKind.i64, Kd.s]] r1 Right.no, AV.sl b2 [Kd.s, Kd.s, Kd.s, Kd.sl [Kd.b, Kd.i IntKind.i64, Kd.s]] r3 Right.no, AV.junk, AV.junk, AV.junk, AV.sl b10 [Kd.s, Kd.s, Kd.s, Kd.sl [Kd.b, Kd.i IntKind.i64, Kd.s]] r11 Right.no, AV.sl b12 [Kd.s, Kd.s, Kd.s, Kd.sl [Kd.b, Kd.i IntKind.i64, Kd.s]] r13 Right.no, AV.dv (DV.val (Value.int IntKind.i64 j16)), AV.junk, AV.junk, AV.junk, AV.junk, AV.junk, AV.junk, AV.junk, AV.junk, AV.junk, AV.junk, AV.junk, AV.junk, AV.junk, AV.junk, AV.junk, AV.junk, AV.junk, AV.junk, AV.junk, AV.junk, AV.junk, AV.junk, AV.junk, AV.junk, AV.junk, AV.junk, AV.junk, AV.junk, AV.junk, AV.junk, AV.junk, AV.junk, AV.junk, AV.junk, AV.junk, AV.junk, AV.junk, AV.junk, AV.junk, AV.junk, AV.junk, AV.junk, AV.junk, AV.junk, AV.junk, AV.junk, AV.junk, AV.junk, AV.junk, AV.junk, AV.junk, AV.junk, AV.junk, AV.junk, AV.junk, AV.junk, AV.junk, AV.junk, AV.junk, AV.junk] [])
noncomputable def law04_FactParts_l11 (n : Nat) (b0 : Bool) (r1 : Rows) (b2 : Bool) (r3 : Rows) (i0 : Nat) (b17 : Bool) (r18 : List (List DV)) (b19 : Bool) (r20 : List (List DV)) (j24 : Int) : Option (Bool × Unit) :=
  DM.loopFn tm (law04_FactParts_Φ n) law04_FactParts_lv n Try.f9 false [] (OSh.chk (OSh.plain (.b) [])) 11 [] i0 (St.mk [AV.sl b0 [Kd.s, Kd.s, Kd.s, Kd.sl [Kd.b, Kd.i IntKind.i64, Kd.s]] r1 Right.no, AV.sl b2 [Kd.s, Kd.s, Kd.s, Kd.sl [Kd.b, Kd.i IntKind.i64, Kd.s]] r3 Right.no, AV.junk, AV.junk, AV.junk, AV.sl b17 [Kd.s, Kd.s, Kd.s, Kd.sl [Kd.b, Kd.i IntKind.i64, Kd.s]] r18 Right.no, AV.sl b19 [Kd.s, Kd.s, Kd.s, Kd.sl [Kd.b, Kd.i IntKind.i64, Kd.s]] r20 Right.no, AV.junk, AV.dv (DV.val (Value.int IntKind.i64 j24)), AV.junk, AV.junk, AV.junk, AV.junk, AV.junk, AV.junk, AV.junk, AV.junk, AV.junk, AV.junk, AV.junk, AV.junk, AV.junk, AV.junk, AV.junk, AV.junk, AV.junk, AV.junk, AV.junk, AV.junk, AV.junk, AV.junk, AV.junk, AV.junk, AV.junk, AV.junk, AV.junk, AV.junk, AV.junk, AV.junk, AV.junk, AV.junk, AV.junk, AV.junk, AV.junk, AV.junk, AV.junk, AV.junk, AV.junk, AV.junk, AV.junk, AV.junk, AV.junk, AV.junk, AV.junk, AV.junk, AV.junk, AV.junk, AV.junk, AV.junk, AV.junk, AV.junk, AV.junk, AV.junk, AV.junk, AV.junk, AV.junk, AV.junk, AV.junk] [])
theorem law04_FactParts_s6 (n : Nat) (b0 : Bool) (r1 : Rows) (b2 : Bool) (r3 : Rows) (i0 : Nat) (b10 : Bool) (r11 : List (List DV)) (b12 : Bool) (r13 : List (List DV)) (j16 : Int) : law04_FactParts_l6 n b0 r1 b2 r3 (i0 + 1) b10 r11 b12 r13 j16 =
  bif decide (j16 < (↑(List.length r11) : Int)) then
    if 0 ≤ j16 then
      if j16 < (↑(List.length r11) : Int) then
        obind (fact_Has_v n b2 r3 (Row.S (List.getD r11 (Int.toNat j16) []) 0) (Row.S (List.getD r11 (Int.toNat j16) []) 1) (Row.S (List.getD r11 (Int.toNat j16) []) 2) (Row.N (List.getD r11 (Int.toNat j16) []) 3) (Row.R (List.getD r11 (Int.toNat j16) []) 3)) fun y28 =>
        bif y28.fst then
          some (false, ())
        else if 0 ≤ j16 then
          if j16 < (↑(List.length r11) : Int) then
            obind (fact_Has_v n b0 r1 (Row.S (List.getD r11 (Int.toNat j16) []) 0) (Row.S (List.getD r11 (Int.toNat j16) []) 1) (Row.S (List.getD r11 (Int.toNat j16) []) 2) (Row.N (List.getD r11 (Int.toNat j16) []) 3) (Row.R (List.getD r11 (Int.toNat j16) []) 3)) fun y29 =>
            bif !y29.fst then
              some (false, ())
            else law04_FactParts_l6 n b0 r1 b2 r3 i0 b10 r11 b12 r13 (IntKind.wrap IntKind.i64 (j16 + 1))
          else none
        else none
      else none
    else none
  else law04_FactParts_l11 n b0 r1 b2 r3 n b10 r11 b12 r13 0 := by kernel_rfl
theorem law04_FactParts_s11 (n : Nat) (b0 : Bool) (r1 : Rows) (b2 : Bool) (r3 : Rows) (i0 : Nat) (b17 : Bool) (r18 : List (List DV)) (b19 : Bool) (r20 : List (List DV)) (j24 : Int) : law04_FactParts_l11 n b0 r1 b2 r3 (i0 + 1) b17 r18 b19 r20 j24 =
  bif decide (j24 < (↑(List.length r20) : Int)) then
    if 0 ≤ j24 then
      if j24 < (↑(List.length r20) : Int) then
        obind (fact_Has_v n b2 r3 (Row.S (List.getD r20 (Int.toNat j24) []) 0) (Row.S (List.getD r20 (Int.toNat j24) []) 1) (Row.S (List.getD r20 (Int.toNat j24) []) 2) (Row.N (List.getD r20 (Int.toNat j24) []) 3) (Row.R (List.getD r20 (Int.toNat j24) []) 3)) fun y25 =>
        bif !y25.fst then
          some (false, ())
        else law04_FactParts_l11 n b0 r1 b2 r3 i0 b17 r18 b19 r20 (IntKind.wrap IntKind.i64 (j24 + 1))
      else none
    else none
  else if (0 + List.length r18) * 72 ≤ 140737488355328 then
    if (List.length (appX [] r18) + List.length r20) * 72 ≤ 140737488355328 then
      obind (fact_Same_v n (false && List.isEmpty r18 && List.isEmpty r20) (appX (appX [] r18) r20) b0 r1) fun y26 =>
      bif y26.fst then
        obind (law04_live_v n) fun y27 =>
        some (y27.fst, ())
      else some (false, ())
    else none
  else none := by kernel_rfl
theorem law04_FactParts_e (n : Nat) (b0 : Bool) (r1 : Rows) (b2 : Bool) (r3 : Rows) : law04_FactParts_v n b0 r1 b2 r3 =
  obind (ref04_Weight_v n b0 r1 200) fun y4 =>
  bif decide (y4.fst > 200) then
    obind (law04_live_v n) fun y5 =>
    some (y5.fst, ())
  else obind (ref04_Weight_v n b2 r3 200) fun y6 =>
  bif decide (y6.fst > 200) then
    obind (law04_live_v n) fun y7 =>
    some (y7.fst, ())
  else obind (fact_Minus_v n b0 r1 b2 r3) fun y8 =>
  obind (fact_Minus_v n b0 r1 y8.fst.fst y8.fst.snd) fun y9 =>
  law04_FactParts_l6 n b0 r1 b2 r3 n y8.fst.fst y8.fst.snd y9.fst.fst y9.fst.snd 0 := by kernel_rfl
theorem law04_FactParts_c (n : Nat) (b0 : Bool) (r1 : Rows) (b2 : Bool) (r3 : Rows) (y : Bool × Unit) (h : law04_FactParts_v n b0 r1 b2 r3 = some y) : Contract Try.prog 9 [AV.sl b0 [Kd.s, Kd.s, Kd.s, Kd.sl [Kd.b, Kd.i IntKind.i64, Kd.s]] r1 Right.no, AV.sl b2 [Kd.s, Kd.s, Kd.s, Kd.sl [Kd.b, Kd.i IntKind.i64, Kd.s]] r3 Right.no] [] (OSh.enc (OSh.plain (.b) []) y) :=
  auto_okM tm_std (with_ok mixed (by kernel_rfl) (law04_FactParts_σok n) n 0 [1000067, 1000069]) (with_pick mixed (by kernel_rfl) (law04_FactParts_σok n) n 0 [1000067, 1000069]) mixed Try.func9 (by decide) (o := (OSh.plain (.b) [])) h
end Go.Den
