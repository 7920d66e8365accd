import Derived.Test.YtamalelonhdfaaaE11a
set_option linter.unusedVariables false
set_option linter.unusedSimpArgs false
set_option linter.unusedSectionVars false
namespace Go.Den
open Go.Proofs
set_option maxRecDepth 100000
/-! slices_CompareFunc: function 48 -/
def slices_CompareFunc_fact_Compare_lv : Live := [(2, [0, 1, 2, 11, 12, 13], [1000, 1001, 1002, 1003])]
noncomputable def slices_CompareFunc_fact_Compare_σ (n : Nat) : Spec := (inst 49 [.agg [.b, .i IntKind.i64, .s], .agg [.b, .i IntKind.i64, .s]] [] (OSh.plain (.i IntKind.i64) []) (fun x e => fact_Compare_v n x.1.1 x.1.2.1 x.1.2.2.1 x.2.1.1 x.2.1.2.1 x.2.1.2.2.1) Spec.none)
theorem slices_CompareFunc_fact_Compare_σok (n : Nat) : SpecOk Try.prog (slices_CompareFunc_fact_Compare_σ n) := (inst_ok (fun x e y h => fact_Compare_c n x.1.1 x.1.2.1 x.1.2.2.1 x.2.1.1 x.2.1.2.1 x.2.1.2.2.1 y h) (SpecOk.none _))
noncomputable def slices_CompareFunc_fact_Compare_Φ (n : Nat) : Orc := with_ Try.prog (slices_CompareFunc_fact_Compare_σ n) [] n 0 [1000053]
noncomputable def slices_CompareFunc_fact_Compare_v (n : Nat) (b0 : Bool) (r1 : Rows) (b2 : Bool) (r3 : Rows) : Option (Int × Unit) :=
  DM.denFn tm (slices_CompareFunc_fact_Compare_Φ n) slices_CompareFunc_fact_Compare_lv n Try.f48 false [AV.sl b0 [Kd.b, Kd.i IntKind.i64, Kd.s] r1 Right.no, AV.sl b2 [Kd.b, Kd.i IntKind.i64, Kd.s] r3 Right.no, AV.fn 49 []] [] (OSh.chk (OSh.plain (.i IntKind.i64) []))
noncomputable def slices_CompareFunc_fact_Compare_l2 (n : Nat) (b0 : Bool) (r1 : Rows) (b2 : Bool) (r3 : Rows) (i0 : Nat) (j5 : Int) : Option (Int × Unit) :=
  DM.loopFn tm (slices_CompareFunc_fact_Compare_Φ n) slices_CompareFunc_fact_Compare_lv n Try.f48 false [] (OSh.chk (OSh.plain (.i IntKind.i64) [])) 2 [] i0 (St.mk [AV.sl b0 [Kd.b, Kd.i IntKind.i64, Kd.s] r1 Right.no, AV.sl b2 [Kd.b, Kd.i IntKind.i64, Kd.s] r3 Right.no, AV.fn 49 [], AV.junk, AV.junk, AV.junk, AV.junk, AV.junk, AV.junk, AV.junk, AV.junk, AV.sl b0 [Kd.b, Kd.i IntKind.i64, Kd.s] r1 Right.no, AV.dv (DV.val (Value.int IntKind.i64 (↑(List.length r1) : Int))), AV.dv (DV.val (Value.int IntKind.i64 j5)), AV.junk, AV.junk, AV.junk, AV.junk, AV.junk, AV.junk, AV.junk, AV.junk, AV.junk, AV.junk, AV.junk, AV.junk, AV.junk, AV.junk, AV.junk, AV.junk, AV.junk, AV.junk, AV.junk, AV.junk, AV.junk, AV.junk, AV.junk, AV.junk, AV.junk] [])
theorem slices_CompareFunc_fact_Compare_s2 (n : Nat) (b0 : Bool) (r1 : Rows) (b2 : Bool) (r3 : Rows) (i0 : Nat) (j5 : Int) : slices_CompareFunc_fact_Compare_l2 n b0 r1 b2 r3 (i0 + 1) j5 =
  bif decide (j5 < (↑(List.length r1) : Int)) then
    if 0 ≤ j5 then
      if j5 < (↑(List.length r1) : Int) then
        bif decide (j5 ≥ (↑(List.length r3) : Int)) then
          some (1, ())
        else if 0 ≤ j5 then
          if j5 < (↑(List.length r3) : Int) then
            obind (fact_Compare_v n (Row.B (List.getD r1 (Int.toNat j5) []) 0) (Row.I (List.getD r1 (Int.toNat j5) []) 1) (Row.S (List.getD r1 (Int.toNat j5) []) 2) (Row.B (List.getD r3 (Int.toNat j5) []) 0) (Row.I (List.getD r3 (Int.toNat j5) []) 1) (Row.S (List.getD r3 (Int.toNat j5) []) 2)) fun y6 =>
            bif y6.fst != 0 then
              some (y6.fst, ())
            else slices_CompareFunc_fact_Compare_l2 n b0 r1 b2 r3 i0 (IntKind.wrap IntKind.i64 (j5 + 1))
          else none
        else none
      else none
    else none
  else bif decide ((↑(List.length r1) : Int) < (↑(List.length r3) : Int)) then
    some (-1, ())
  else some (0, ()) := by kernel_rfl
theorem slices_CompareFunc_fact_Compare_e (n : Nat) (b0 : Bool) (r1 : Rows) (b2 : Bool) (r3 : Rows) : slices_CompareFunc_fact_Compare_v n b0 r1 b2 r3 =
  slices_CompareFunc_fact_Compare_l2 n b0 r1 b2 r3 n 0 := by kernel_rfl
theorem slices_CompareFunc_fact_Compare_c (n : Nat) (b0 : Bool) (r1 : Rows) (b2 : Bool) (r3 : Rows) (y : Int × Unit) (h : slices_CompareFunc_fact_Compare_v n b0 r1 b2 r3 = some y) : Contract Try.prog 48 [AV.sl b0 [Kd.b, Kd.i IntKind.i64, Kd.s] r1 Right.no, AV.sl b2 [Kd.b, Kd.i IntKind.i64, Kd.s] r3 Right.no, AV.fn 49 []] [] (OSh.enc (OSh.plain (.i IntKind.i64) []) y) :=
  auto_okM tm_std (with_ok mixed (by kernel_rfl) (slices_CompareFunc_fact_Compare_σok n) n 0 [1000053]) (with_pick mixed (by kernel_rfl) (slices_CompareFunc_fact_Compare_σok n) n 0 [1000053]) mixed Try.func48 (by decide) (o := (OSh.plain (.i IntKind.i64) [])) h
/-! fact_Order: function 43 -/
def fact_Order_lv : Live := []
noncomputable def fact_Order_σ (n : Nat) : Spec := (inst 47 [.s, .s] [] (OSh.plain (.i IntKind.i64) []) (fun x e => cmp_Compare_v n x.1 x.2.1) (inst 48 [.sl [Kd.b, Kd.i IntKind.i64, Kd.s], .sl [Kd.b, Kd.i IntKind.i64, Kd.s], .fn 49 []] [] (OSh.plain (.i IntKind.i64) []) (fun x e => slices_CompareFunc_fact_Compare_v n x.1.1 x.1.2 x.2.1.1 x.2.1.2) (inst 46 [.sl [Kd.i IntKind.i64]] [] (OSh.plain (.i IntKind.i64) []) (fun x e => cmp_Or_v n x.1.1 x.1.2) Spec.none)))
theorem fact_Order_σok (n : Nat) : SpecOk Try.prog (fact_Order_σ n) := (inst_ok (fun x e y h => cmp_Compare_c n x.1 x.2.1 y h) (inst_ok (fun x e y h => slices_CompareFunc_fact_Compare_c n x.1.1 x.1.2 x.2.1.1 x.2.1.2 y h) (inst_ok (fun x e y h => cmp_Or_c n x.1.1 x.1.2 y h) (SpecOk.none _))))
noncomputable def fact_Order_Φ (n : Nat) : Orc := with_ Try.prog (fact_Order_σ n) [] n 0 [1000053]
noncomputable def fact_Order_v (n : Nat) (s0 : ByteArray) (s1 : ByteArray) (s2 : ByteArray) (b3 : Bool) (r4 : Rows) (s5 : ByteArray) (s6 : ByteArray) (s7 : ByteArray) (b8 : Bool) (r9 : Rows) : Option (Int × Unit) :=
  DM.denFn tm (fact_Order_Φ n) fact_Order_lv n Try.f43 false [AV.agg [AV.dv (DV.val (Value.string s0)), AV.dv (DV.val (Value.string s1)), AV.dv (DV.val (Value.string s2)), AV.sl b3 [Kd.b, Kd.i IntKind.i64, Kd.s] r4 Right.no], AV.agg [AV.dv (DV.val (Value.string s5)), AV.dv (DV.val (Value.string s6)), AV.dv (DV.val (Value.string s7)), AV.sl b8 [Kd.b, Kd.i IntKind.i64, Kd.s] r9 Right.no]] [] (OSh.chk (OSh.plain (.i IntKind.i64) []))
theorem fact_Order_e (n : Nat) (s0 : ByteArray) (s1 : ByteArray) (s2 : ByteArray) (b3 : Bool) (r4 : Rows) (s5 : ByteArray) (s6 : ByteArray) (s7 : ByteArray) (b8 : Bool) (r9 : Rows) : fact_Order_v n s0 s1 s2 b3 r4 s5 s6 s7 b8 r9 =
  obind (cmp_Compare_v n s0 s5) fun y10 =>
  obind (cmp_Compare_v n s1 s6) fun y11 =>
  obind (cmp_Compare_v n s2 s7) fun y12 =>
  obind (slices_CompareFunc_fact_Compare_v n b3 r4 b8 r9) fun y13 =>
  obind (cmp_Or_v n false ([[DV.val (Value.int IntKind.i64 y10.fst)], [DV.val (Value.int IntKind.i64 y11.fst)], [DV.val (Value.int IntKind.i64 y12.fst)], [DV.val (Value.int IntKind.i64 y13.fst)]])) fun y14 =>
  some (y14.fst, ()) := by kernel_rfl
theorem fact_Order_c (n : Nat) (s0 : ByteArray) (s1 : ByteArray) (s2 : ByteArray) (b3 : Bool) (r4 : Rows) (s5 : ByteArray) (s6 : ByteArray) (s7 : ByteArray) (b8 : Bool) (r9 : Rows) (y : Int × Unit) (h : fact_Order_v n s0 s1 s2 b3 r4 s5 s6 s7 b8 r9 = some y) : Contract Try.prog 43 [AV.agg [AV.dv (DV.val (Value.string s0)), AV.dv (DV.val (Value.string s1)), AV.dv (DV.val (Value.string s2)), AV.sl b3 [Kd.b, Kd.i IntKind.i64, Kd.s] r4 Right.no], AV.agg [AV.dv (DV.val (Value.string s5)), AV.dv (DV.val (Value.string s6)), AV.dv (DV.val (Value.string s7)), AV.sl b8 [Kd.b, Kd.i IntKind.i64, Kd.s] r9 Right.no]] [] (OSh.enc (OSh.plain (.i IntKind.i64) []) y) :=
  auto_okM tm_std (with_ok mixed (by kernel_rfl) (fact_Order_σok n) n 0 [1000053]) (with_pick mixed (by kernel_rfl) (fact_Order_σok n) n 0 [1000053]) mixed Try.func43 (by decide) (o := (OSh.plain (.i IntKind.i64) [])) h
/-! match_Follows: function 24 -/
def match_Follows_lv : Live := [(5, [2, 3, 5, 32, 33, 34], [2, 3, 1000, 1001, 1002, 1003])]
noncomputable def match_Follows_σ (n : Nat) : Spec := (inst 35 [.s] [] (OSh.plain (.agg [.b, .i IntKind.i64, .s]) []) (fun x e => match_text_v n x.1) (inst 12 [.agg [.s, .b, .i IntKind.i64, .s], .agg [.b, .i IntKind.i64, .s], .sl [Kd.s, Kd.b, Kd.i IntKind.i64, Kd.s]] [] (OSh.plain (.tup [.slt [Kd.s, Kd.b, Kd.i IntKind.i64, Kd.s] 0, .b]) []) (fun x e => match_Unify_v n x.1.1 x.1.2.1 x.1.2.2.1 x.1.2.2.2.1 x.2.1.1 x.2.1.2.1 x.2.1.2.2.1 x.2.2.1.1 x.2.2.1.2) (inst 16 [.agg [.s, .b, .i IntKind.i64, .s], .agg [.s, .b, .i IntKind.i64, .s, .s, .sl [Kd.s, Kd.b, Kd.i IntKind.i64, Kd.s], .s, .b, .i IntKind.i64, .s], .agg [.s, .s, .s, .sl [Kd.b, Kd.i IntKind.i64, Kd.s]], .sl [Kd.s, Kd.b, Kd.i IntKind.i64, Kd.s]] [] (OSh.plain (.tup [.slt [Kd.s, Kd.b, Kd.i IntKind.i64, Kd.s] 0, .b]) []) (fun x e => match_Literal_v n x.1.1 x.1.2.1 x.1.2.2.1 x.1.2.2.2.1 x.2.1.1 x.2.1.2.1 x.2.1.2.2.1 x.2.1.2.2.2.1 x.2.1.2.2.2.2.1 x.2.1.2.2.2.2.2.1.1 x.2.1.2.2.2.2.2.1.2 x.2.1.2.2.2.2.2.2.1 x.2.1.2.2.2.2.2.2.2.1 x.2.1.2.2.2.2.2.2.2.2.1 x.2.1.2.2.2.2.2.2.2.2.2.1 x.2.2.1.1 x.2.2.1.2.1 x.2.2.1.2.2.1 x.2.2.1.2.2.2.1.1 x.2.2.1.2.2.2.1.2 x.2.2.2.1.1 x.2.2.2.1.2) (inst 19 [.agg [.s, .b, .i IntKind.i64, .s, .s, .sl [Kd.s, Kd.b, Kd.i IntKind.i64, Kd.s], .s, .b, .i IntKind.i64, .s, .sl [Kd.s, Kd.b, Kd.i IntKind.i64, Kd.s, Kd.s, Kd.sl [Kd.s, Kd.b, Kd.i IntKind.i64, Kd.s], Kd.s, Kd.b, Kd.i IntKind.i64, Kd.s]], .sl [Kd.s, Kd.b, Kd.i IntKind.i64, Kd.s]] [] (OSh.plain (.tup [.agg [.s, .s, .s, .sl [Kd.b, Kd.i IntKind.i64, Kd.s]], .b]) []) (fun x e => match_Head_v n x.1.1 x.1.2.1 x.1.2.2.1 x.1.2.2.2.1 x.1.2.2.2.2.1 x.1.2.2.2.2.2.1.1 x.1.2.2.2.2.2.1.2 x.1.2.2.2.2.2.2.1 x.1.2.2.2.2.2.2.2.1 x.1.2.2.2.2.2.2.2.2.1 x.1.2.2.2.2.2.2.2.2.2.1 x.1.2.2.2.2.2.2.2.2.2.2.1.1 x.1.2.2.2.2.2.2.2.2.2.2.1.2 x.2.1.1 x.2.1.2) (inst 43 [.agg [.s, .s, .s, .sl [Kd.b, Kd.i IntKind.i64, Kd.s]], .agg [.s, .s, .s, .sl [Kd.b, Kd.i IntKind.i64, Kd.s]]] [] (OSh.plain (.i IntKind.i64) []) (fun x e => fact_Order_v n x.1.1 x.1.2.1 x.1.2.2.1 x.1.2.2.2.1.1 x.1.2.2.2.1.2 x.2.1.1 x.2.1.2.1 x.2.1.2.2.1 x.2.1.2.2.2.1.1 x.2.1.2.2.2.1.2) Spec.none)))))
theorem match_Follows_σok (n : Nat) : SpecOk Try.prog (match_Follows_σ n) := (inst_ok (fun x e y h => match_text_c n x.1 y h) (inst_ok (fun x e y h => match_Unify_c n x.1.1 x.1.2.1 x.1.2.2.1 x.1.2.2.2.1 x.2.1.1 x.2.1.2.1 x.2.1.2.2.1 x.2.2.1.1 x.2.2.1.2 y h) (inst_ok (fun x e y h => match_Literal_c n x.1.1 x.1.2.1 x.1.2.2.1 x.1.2.2.2.1 x.2.1.1 x.2.1.2.1 x.2.1.2.2.1 x.2.1.2.2.2.1 x.2.1.2.2.2.2.1 x.2.1.2.2.2.2.2.1.1 x.2.1.2.2.2.2.2.1.2 x.2.1.2.2.2.2.2.2.1 x.2.1.2.2.2.2.2.2.2.1 x.2.1.2.2.2.2.2.2.2.2.1 x.2.1.2.2.2.2.2.2.2.2.2.1 x.2.2.1.1 x.2.2.1.2.1 x.2.2.1.2.2.1 x.2.2.1.2.2.2.1.1 x.2.2.1.2.2.2.1.2 x.2.2.2.1.1 x.2.2.2.1.2 y h) (inst_ok (fun x e y h => match_Head_c n x.1.1 x.1.2.1 x.1.2.2.1 x.1.2.2.2.1 x.1.2.2.2.2.1 x.1.2.2.2.2.2.1.1 x.1.2.2.2.2.2.1.2 x.1.2.2.2.2.2.2.1 x.1.2.2.2.2.2.2.2.1 x.1.2.2.2.2.2.2.2.2.1 x.1.2.2.2.2.2.2.2.2.2.1 x.1.2.2.2.2.2.2.2.2.2.2.1.1 x.1.2.2.2.2.2.2.2.2.2.2.1.2 x.2.1.1 x.2.1.2 y h) (inst_ok (fun x e y h => fact_Order_c n x.1.1 x.1.2.1 x.1.2.2.1 x.1.2.2.2.1.1 x.1.2.2.2.1.2 x.2.1.1 x.2.1.2.1 x.2.1.2.2.1 x.2.1.2.2.2.1.1 x.2.1.2.2.2.1.2 y h) (SpecOk.none _))))))
noncomputable def match_Follows_Φ (n : Nat) : Orc := with_ Try.prog (match_Follows_σ n) [] n 0 [1000053]
noncomputable def match_Follows_v (n : Nat) (s0 : ByteArray) (b1 : Bool) (j2 : Int) (s3 : ByteArray) (s4 : ByteArray) (b5 : Bool) (r6 : Rows) (s7 : ByteArray) (b8 : Bool) (j9 : Int) (s10 : ByteArray) (b11 : Bool) (r12 : Rows) (j13 : Int) (s14 : ByteArray) (s15 : ByteArray) (s16 : ByteArray) (b17 : Bool) (r18 : Rows) (b19 : Bool) (r20 : Rows) : Option (Bool × Unit) :=
  DM.denFn tm (match_Follows_Φ n) match_Follows_lv n Try.f24 false [AV.agg [AV.dv (DV.val (Value.string s0)), AV.dv (DV.val (Value.bool b1)), AV.dv (DV.val (Value.int IntKind.i64 j2)), AV.dv (DV.val (Value.string s3)), AV.dv (DV.val (Value.string s4)), AV.sl b5 [Kd.s, Kd.b, Kd.i IntKind.i64, Kd.s] r6 Right.no, AV.dv (DV.val (Value.string s7)), AV.dv (DV.val (Value.bool b8)), AV.dv (DV.val (Value.int IntKind.i64 j9)), AV.dv (DV.val (Value.string s10)), AV.sl b11 [Kd.s, Kd.b, Kd.i IntKind.i64, Kd.s, Kd.s, Kd.sl [Kd.s, Kd.b, Kd.i IntKind.i64, Kd.s], Kd.s, Kd.b, Kd.i IntKind.i64, Kd.s] r12 Right.no], AV.agg [AV.dv (DV.val (Value.int IntKind.i64 j13)), AV.dv (DV.val (Value.string s14)), AV.dv (DV.val (Value.string s15)), AV.dv (DV.val (Value.string s16)), AV.sl b17 [Kd.b, Kd.i IntKind.i64, Kd.s] r18 Right.no, AV.sl b19 [Kd.s, Kd.s, Kd.s, Kd.sl [Kd.b, Kd.i IntKind.i64, Kd.s]] r20 Right.no]] [] (OSh.chk (OSh.plain (.b) []))
noncomputable def match_Follows_l5 (n : Nat) (s0 : ByteArray) (b1 : Bool) (j2 : Int) (s3 : ByteArray) (s4 : ByteArray) (b5 : Bool) (r6 : Rows) (s7 : ByteArray) (b8 : Bool) (j9 : Int) (s10 : ByteArray) (b11 : Bool) (r12 : Rows) (j13 : Int) (s14 : ByteArray) (s15 : ByteArray) (s16 : ByteArray) (b17 : Bool) (r18 : Rows) (b19 : Bool) (r20 : Rows) (i0 : Nat) (b23 : Bool) (r24 : List (List DV)) (j28 : Int) : Option (Bool × Unit) :=
  DM.loopFn tm (match_Follows_Φ n) match_Follows_lv n Try.f24 false [] (OSh.chk (OSh.plain (.b) [])) 5 [] i0 (St.mk [AV.junk, AV.junk, AV.pl 2 0, AV.pl 3 0, AV.junk, AV.sl b23 [Kd.s, Kd.b, Kd.i IntKind.i64, Kd.s] r24 (Right.tok 5), AV.junk, AV.junk, AV.junk, AV.junk, AV.junk, AV.junk, AV.junk, AV.junk, AV.junk, AV.junk, AV.junk, AV.junk, AV.junk, AV.junk, AV.junk, AV.junk, AV.junk, AV.junk, AV.junk, AV.junk, AV.junk, AV.junk, AV.junk, AV.junk, AV.junk, AV.junk, AV.sl b11 [Kd.s, Kd.b, Kd.i IntKind.i64, Kd.s, Kd.s, Kd.sl [Kd.s, Kd.b, Kd.i IntKind.i64, Kd.s], Kd.s, Kd.b, Kd.i IntKind.i64, Kd.s] r12 Right.no, AV.dv (DV.val (Value.int IntKind.i64 (↑(List.length r12) : Int))), AV.dv (DV.val (Value.int IntKind.i64 j28)), AV.junk, AV.junk, AV.junk, AV.junk, AV.junk, AV.junk, AV.junk, AV.junk, AV.junk, AV.junk, AV.junk, AV.junk, AV.junk, AV.junk, AV.junk, AV.junk, AV.junk, AV.junk, AV.junk, AV.junk, AV.junk, AV.junk, AV.junk, AV.junk, AV.junk, AV.junk, AV.junk, AV.junk, AV.junk, AV.junk, AV.junk, AV.junk, AV.junk, AV.junk] [(2, [AV.dv (DV.val (Value.string s0)), AV.dv (DV.val (Value.bool b1)), AV.dv (DV.val (Value.int IntKind.i64 j2)), AV.dv (DV.val (Value.string s3)), AV.dv (DV.val (Value.string s4)), AV.sl b5 [Kd.s, Kd.b, Kd.i IntKind.i64, Kd.s] r6 Right.no, AV.dv (DV.val (Value.string s7)), AV.dv (DV.val (Value.bool b8)), AV.dv (DV.val (Value.int IntKind.i64 j9)), AV.dv (DV.val (Value.string s10)), AV.sl b11 [Kd.s, Kd.b, Kd.i IntKind.i64, Kd.s, Kd.s, Kd.sl [Kd.s, Kd.b, Kd.i IntKind.i64, Kd.s], Kd.s, Kd.b, Kd.i IntKind.i64, Kd.s] r12 Right.no]), (3, [AV.dv (DV.val (Value.int IntKind.i64 j13)), AV.dv (DV.val (Value.string s14)), AV.dv (DV.val (Value.string s15)), AV.dv (DV.val (Value.string s16)), AV.sl b17 [Kd.b, Kd.i IntKind.i64, Kd.s] r18 Right.no, AV.sl b19 [Kd.s, Kd.s, Kd.s, Kd.sl [Kd.b, Kd.i IntKind.i64, Kd.s]] r20 Right.no])])
theorem match_Follows_s5 (n : Nat) (s0 : ByteArray) (b1 : Bool) (j2 : Int) (s3 : ByteArray) (s4 : ByteArray) (b5 : Bool) (r6 : Rows) (s7 : ByteArray) (b8 : Bool) (j9 : Int) (s10 : ByteArray) (b11 : Bool) (r12 : Rows) (j13 : Int) (s14 : ByteArray) (s15 : ByteArray) (s16 : ByteArray) (b17 : Bool) (r18 : Rows) (b19 : Bool) (r20 : Rows) (i0 : Nat) (b23 : Bool) (r24 : List (List DV)) (j28 : Int) : match_Follows_l5 n s0 b1 j2 s3 s4 b5 r6 s7 b8 j9 s10 b11 r12 j13 s14 s15 s16 b17 r18 b19 r20 (i0 + 1) b23 r24 j28 =
  bif decide (j28 < (↑(List.length r12) : Int)) then
    if 0 ≤ j28 then
      if j28 < (↑(List.length r12) : Int) then
        if 0 ≤ j28 then
          if j28 < (↑(List.length r20) : Int) then
            obind (match_Literal_v n s0 b1 j2 s3 (Row.S (List.getD r12 (Int.toNat j28) []) 0) (Row.B (List.getD r12 (Int.toNat j28) []) 1) (Row.I (List.getD r12 (Int.toNat j28) []) 2) (Row.S (List.getD r12 (Int.toNat j28) []) 3) (Row.S (List.getD r12 (Int.toNat j28) []) 4) (Row.N (List.getD r12 (Int.toNat j28) []) 5) (Row.R (List.getD r12 (Int.toNat j28) []) 5) (Row.S (List.getD r12 (Int.toNat j28) []) 6) (Row.B (List.getD r12 (Int.toNat j28) []) 7) (Row.I (List.getD r12 (Int.toNat j28) []) 8) (Row.S (List.getD r12 (Int.toNat j28) []) 9) (Row.S (List.getD r20 (Int.toNat j28) []) 0) (Row.S (List.getD r20 (Int.toNat j28) []) 1) (Row.S (List.getD r20 (Int.toNat j28) []) 2) (Row.N (List.getD r20 (Int.toNat j28) []) 3) (Row.R (List.getD r20 (Int.toNat j28) []) 3) b23 r24) fun y29 =>
            bif !y29.fst.snd.fst then
              some (false, ())
            else match_Follows_l5 n s0 b1 j2 s3 s4 b5 r6 s7 b8 j9 s10 b11 r12 j13 s14 s15 s16 b17 r18 b19 r20 i0 y29.fst.fst.fst y29.fst.fst.snd (IntKind.wrap IntKind.i64 (j28 + 1))
          else none
        else none
      else none
    else none
  else obind (match_Head_v n s0 b1 j2 s3 s4 b5 r6 s7 b8 j9 s10 b11 r12 b23 r24) fun y30 =>
  bif y30.fst.snd.fst then
    obind (fact_Order_v n y30.fst.fst.fst y30.fst.fst.snd.fst y30.fst.fst.snd.snd.fst y30.fst.fst.snd.snd.snd.fst.fst y30.fst.fst.snd.snd.snd.fst.snd s14 s15 s16 b17 r18) fun y31 =>
    some (y31.fst == 0, ())
  else some (false, ()) := by kernel_rfl
theorem match_Follows_e (n : Nat) (s0 : ByteArray) (b1 : Bool) (j2 : Int) (s3 : ByteArray) (s4 : ByteArray) (b5 : Bool) (r6 : Rows) (s7 : ByteArray) (b8 : Bool) (j9 : Int) (s10 : ByteArray) (b11 : Bool) (r12 : Rows) (j13 : Int) (s14 : ByteArray) (s15 : ByteArray) (s16 : ByteArray) (b17 : Bool) (r18 : Rows) (b19 : Bool) (r20 : Rows) : match_Follows_v n s0 b1 j2 s3 s4 b5 r6 s7 b8 j9 s10 b11 r12 j13 s14 s15 s16 b17 r18 b19 r20 =
  obind (match_text_v n s15) fun y21 =>
  obind (match_Unify_v n s0 b1 j2 s3 y21.fst.fst y21.fst.snd.fst y21.fst.snd.snd.fst true []) fun y22 =>
  bif !y22.fst.snd.fst then
    some (false, ())
  else bif (↑(List.length r12) : Int) != (↑(List.length r20) : Int) then
    some (false, ())
  else match_Follows_l5 n s0 b1 j2 s3 s4 b5 r6 s7 b8 j9 s10 b11 r12 j13 s14 s15 s16 b17 r18 b19 r20 n y22.fst.fst.fst y22.fst.fst.snd 0 := by kernel_rfl
theorem match_Follows_c (n : Nat) (s0 : ByteArray) (b1 : Bool) (j2 : Int) (s3 : ByteArray) (s4 : ByteArray) (b5 : Bool) (r6 : Rows) (s7 : ByteArray) (b8 : Bool) (j9 : Int) (s10 : ByteArray) (b11 : Bool) (r12 : Rows) (j13 : Int) (s14 : ByteArray) (s15 : ByteArray) (s16 : ByteArray) (b17 : Bool) (r18 : Rows) (b19 : Bool) (r20 : Rows) (y : Bool × Unit) (h : match_Follows_v n s0 b1 j2 s3 s4 b5 r6 s7 b8 j9 s10 b11 r12 j13 s14 s15 s16 b17 r18 b19 r20 = some y) : Contract Try.prog 24 [AV.agg [AV.dv (DV.val (Value.string s0)), AV.dv (DV.val (Value.bool b1)), AV.dv (DV.val (Value.int IntKind.i64 j2)), AV.dv (DV.val (Value.string s3)), AV.dv (DV.val (Value.string s4)), AV.sl b5 [Kd.s, Kd.b, Kd.i IntKind.i64, Kd.s] r6 Right.no, AV.dv (DV.val (Value.string s7)), AV.dv (DV.val (Value.bool b8)), AV.dv (DV.val (Value.int IntKind.i64 j9)), AV.dv (DV.val (Value.string s10)), AV.sl b11 [Kd.s, Kd.b, Kd.i IntKind.i64, Kd.s, Kd.s, Kd.sl [Kd.s, Kd.b, Kd.i IntKind.i64, Kd.s], Kd.s, Kd.b, Kd.i IntKind.i64, Kd.s] r12 Right.no], AV.agg [AV.dv (DV.val (Value.int IntKind.i64 j13)), AV.dv (DV.val (Value.string s14)), AV.dv (DV.val (Value.string s15)), AV.dv (DV.val (Value.string s16)), AV.sl b17 [Kd.b, Kd.i IntKind.i64, Kd.s] r18 Right.no, AV.sl b19 [Kd.s, Kd.s, Kd.s, Kd.sl [Kd.b, Kd.i IntKind.i64, Kd.s]] r20 Right.no]] [] (OSh.enc (OSh.plain (.b) []) y) :=
  auto_okM tm_std (with_ok mixed (by kernel_rfl) (match_Follows_σok n) n 0 [1000053]) (with_pick mixed (by kernel_rfl) (match_Follows_σok n) n 0 [1000053]) mixed Try.func24 (by decide) (o := (OSh.plain (.b) [])) h
/-! ref04_Copy: function 27 -/
def ref04_Copy_lv : Live := [(3, [0, 3, 4], [1000, 1001, 1002, 1003])]
noncomputable def ref04_Copy_σ (n : Nat) : Spec := Spec.none
theorem ref04_Copy_σok (n : Nat) : SpecOk Try.prog (ref04_Copy_σ n) := (SpecOk.none _)
noncomputable def ref04_Copy_Φ (n : Nat) : Orc := with_ Try.prog (ref04_Copy_σ n) [] n 0 [1000053]
noncomputable def ref04_Copy_v (n : Nat) (b0 : Bool) (r1 : Rows) : Option ((Bool × Rows) × Unit) :=
  DM.denFn tm (ref04_Copy_Φ n) ref04_Copy_lv n Try.f27 true [AV.sl b0 [Kd.s, Kd.s, Kd.s, Kd.sl [Kd.b, Kd.i IntKind.i64, Kd.s]] r1 Right.no] [] (OSh.chk (OSh.plain (.slt [Kd.s, Kd.s, Kd.s, Kd.sl [Kd.b, Kd.i IntKind.i64, Kd.s]] 0) []))
noncomputable def ref04_Copy_l3 (n : Nat) (b0 : Bool) (r1 : Rows) (i0 : Nat) (b2 : Bool) (r3 : List (List DV)) (j4 : Int) : Option ((Bool × Rows) × Unit) :=
  DM.loopFn tm (ref04_Copy_Φ n) ref04_Copy_lv n Try.f27 true [] (OSh.chk (OSh.plain (.slt [Kd.s, Kd.s, Kd.s, Kd.sl [Kd.b, Kd.i IntKind.i64, Kd.s]] 0) [])) 3 [] i0 (St.mk [AV.sl b0 [Kd.s, Kd.s, Kd.s, Kd.sl [Kd.b, Kd.i IntKind.i64, Kd.s]] r1 Right.no, AV.junk, AV.junk, AV.sl b2 [Kd.s, Kd.s, Kd.s, Kd.sl [Kd.b, Kd.i IntKind.i64, Kd.s]] r3 (Right.tok 3), AV.dv (DV.val (Value.int IntKind.i64 j4)), AV.junk, AV.junk, AV.junk, AV.junk, AV.junk, AV.junk, AV.junk, AV.junk, AV.junk, AV.junk, AV.junk, AV.junk, AV.junk, AV.junk, AV.junk, AV.junk, AV.junk, AV.junk, AV.junk, AV.junk, AV.junk] [])
theorem ref04_Copy_s3 (n : Nat) (b0 : Bool) (r1 : Rows) (i0 : Nat) (b2 : Bool) (r3 : List (List DV)) (j4 : Int) : ref04_Copy_l3 n b0 r1 (i0 + 1) b2 r3 j4 =
  bif decide (j4 < (↑(List.length r1) : Int)) then
    if 0 ≤ j4 then
      if j4 < (↑(List.length r1) : Int) then
        if (0 + List.length (Row.R (List.getD r1 (Int.toNat j4) []) 3)) * 32 ≤ 140737488355328 then
          if (List.length r3 + List.length [[DV.val (Value.string (Row.S (List.getD r1 (Int.toNat j4) []) 0)), DV.val (Value.string (Row.S (List.getD r1 (Int.toNat j4) []) 1)), DV.val (Value.string (Row.S (List.getD r1 (Int.toNat j4) []) 2)), DV.sl (false && List.isEmpty (Row.R (List.getD r1 (Int.toNat j4) []) 3)) [Kd.b, Kd.i IntKind.i64, Kd.s] (appX [] (Row.R (List.getD r1 (Int.toNat j4) []) 3))]]) * 72 ≤ 140737488355328 then
            ref04_Copy_l3 n b0 r1 i0 (b2 && List.isEmpty [[DV.val (Value.string (Row.S (List.getD r1 (Int.toNat j4) []) 0)), DV.val (Value.string (Row.S (List.getD r1 (Int.toNat j4) []) 1)), DV.val (Value.string (Row.S (List.getD r1 (Int.toNat j4) []) 2)), DV.sl (false && List.isEmpty (Row.R (List.getD r1 (Int.toNat j4) []) 3)) [Kd.b, Kd.i IntKind.i64, Kd.s] (appX [] (Row.R (List.getD r1 (Int.toNat j4) []) 3))]]) (appX r3 [[DV.val (Value.string (Row.S (List.getD r1 (Int.toNat j4) []) 0)), DV.val (Value.string (Row.S (List.getD r1 (Int.toNat j4) []) 1)), DV.val (Value.string (Row.S (List.getD r1 (Int.toNat j4) []) 2)), DV.sl (false && List.isEmpty (Row.R (List.getD r1 (Int.toNat j4) []) 3)) [Kd.b, Kd.i IntKind.i64, Kd.s] (appX [] (Row.R (List.getD r1 (Int.toNat j4) []) 3))]]) (IntKind.wrap IntKind.i64 (j4 + 1))
          else none
        else none
      else none
    else none
  else some ((b2, r3), ()) := by kernel_rfl
theorem ref04_Copy_e (n : Nat) (b0 : Bool) (r1 : Rows) : ref04_Copy_v n b0 r1 =
  ref04_Copy_l3 n b0 r1 n true [] 0 := by kernel_rfl
theorem ref04_Copy_c (n : Nat) (b0 : Bool) (r1 : Rows) (y : (Bool × Rows) × Unit) (h : ref04_Copy_v n b0 r1 = some y) : Contract Try.prog 27 [AV.sl b0 [Kd.s, Kd.s, Kd.s, Kd.sl [Kd.b, Kd.i IntKind.i64, Kd.s]] r1 Right.no] [] (OSh.enc (OSh.plain (.slt [Kd.s, Kd.s, Kd.s, Kd.sl [Kd.b, Kd.i IntKind.i64, Kd.s]] 0) []) y) :=
  auto_okM tm_std (with_ok mixed (by kernel_rfl) (ref04_Copy_σok n) n 0 [1000053]) (with_pick mixed (by kernel_rfl) (ref04_Copy_σok n) n 0 [1000053]) mixed Try.func27 (by decide) (o := (OSh.plain (.slt [Kd.s, Kd.s, Kd.s, Kd.sl [Kd.b, Kd.i IntKind.i64, Kd.s]] 0) [])) h
/-! law11_MatchInstances: function 8 -/
def law11_MatchInstances_lv : Live := [(1000013, [0, 11, 11], []), (1000014, [1, 11], []), (999999, [], [])]
noncomputable def law11_MatchInstances_σ (n : Nat) : Spec := (inst 15 [.agg [.s, .b, .i IntKind.i64, .s, .s, .sl [Kd.s, Kd.b, Kd.i IntKind.i64, Kd.s], .s, .b, .i IntKind.i64, .s, .sl [Kd.s, Kd.b, Kd.i IntKind.i64, Kd.s, Kd.s, Kd.sl [Kd.s, Kd.b, Kd.i IntKind.i64, Kd.s], Kd.s, Kd.b, Kd.i IntKind.i64, Kd.s]], .sl [Kd.s, Kd.s, Kd.s, Kd.sl [Kd.b, Kd.i IntKind.i64, Kd.s]], .sl [Kd.s, Kd.b, Kd.i IntKind.i64, Kd.s]] [] (OSh.plain (.b) []) (fun x e => law11_light_v n x.1.1 x.1.2.1 x.1.2.2.1 x.1.2.2.2.1 x.1.2.2.2.2.1 x.1.2.2.2.2.2.1.1 x.1.2.2.2.2.2.1.2 x.1.2.2.2.2.2.2.1 x.1.2.2.2.2.2.2.2.1 x.1.2.2.2.2.2.2.2.2.1 x.1.2.2.2.2.2.2.2.2.2.1 x.1.2.2.2.2.2.2.2.2.2.2.1.1 x.1.2.2.2.2.2.2.2.2.2.2.1.2 x.2.1.1 x.2.1.2 x.2.2.1.1 x.2.2.1.2) (inst 9 [] [] (OSh.plain (.b) []) (fun x e => law11_live_v n) (inst 19 [.agg [.s, .b, .i IntKind.i64, .s, .s, .sl [Kd.s, Kd.b, Kd.i IntKind.i64, Kd.s], .s, .b, .i IntKind.i64, .s, .sl [Kd.s, Kd.b, Kd.i IntKind.i64, Kd.s, Kd.s, Kd.sl [Kd.s, Kd.b, Kd.i IntKind.i64, Kd.s], Kd.s, Kd.b, Kd.i IntKind.i64, Kd.s]], .sl [Kd.s, Kd.b, Kd.i IntKind.i64, Kd.s]] [] (OSh.plain (.tup [.agg [.s, .s, .s, .sl [Kd.b, Kd.i IntKind.i64, Kd.s]], .b]) []) (fun x e => match_Head_v n x.1.1 x.1.2.1 x.1.2.2.1 x.1.2.2.2.1 x.1.2.2.2.2.1 x.1.2.2.2.2.2.1.1 x.1.2.2.2.2.2.1.2 x.1.2.2.2.2.2.2.1 x.1.2.2.2.2.2.2.2.1 x.1.2.2.2.2.2.2.2.2.1 x.1.2.2.2.2.2.2.2.2.2.1 x.1.2.2.2.2.2.2.2.2.2.2.1.1 x.1.2.2.2.2.2.2.2.2.2.2.1.2 x.2.1.1 x.2.1.2) (inst 21 [.agg [.s, .b, .i IntKind.i64, .s, .s, .sl [Kd.s, Kd.b, Kd.i IntKind.i64, Kd.s], .s, .b, .i IntKind.i64, .s, .sl [Kd.s, Kd.b, Kd.i IntKind.i64, Kd.s, Kd.s, Kd.sl [Kd.s, Kd.b, Kd.i IntKind.i64, Kd.s], Kd.s, Kd.b, Kd.i IntKind.i64, Kd.s]], .sl [Kd.s, Kd.b, Kd.i IntKind.i64, Kd.s]] [] (OSh.plain (.tup [.slt [Kd.s, Kd.s, Kd.s, Kd.sl [Kd.b, Kd.i IntKind.i64, Kd.s]] 0, .b]) []) (fun x e => match_Body_v n x.1.1 x.1.2.1 x.1.2.2.1 x.1.2.2.2.1 x.1.2.2.2.2.1 x.1.2.2.2.2.2.1.1 x.1.2.2.2.2.2.1.2 x.1.2.2.2.2.2.2.1 x.1.2.2.2.2.2.2.2.1 x.1.2.2.2.2.2.2.2.2.1 x.1.2.2.2.2.2.2.2.2.2.1 x.1.2.2.2.2.2.2.2.2.2.2.1.1 x.1.2.2.2.2.2.2.2.2.2.2.1.2 x.2.1.1 x.2.1.2) (inst 26 [.agg [.s, .b, .i IntKind.i64, .s, .s, .sl [Kd.s, Kd.b, Kd.i IntKind.i64, Kd.s], .s, .b, .i IntKind.i64, .s, .sl [Kd.s, Kd.b, Kd.i IntKind.i64, Kd.s, Kd.s, Kd.sl [Kd.s, Kd.b, Kd.i IntKind.i64, Kd.s], Kd.s, Kd.b, Kd.i IntKind.i64, Kd.s]]] [] (OSh.plain (.b) []) (fun x e => law11_open_v n x.1.1 x.1.2.1 x.1.2.2.1 x.1.2.2.2.1 x.1.2.2.2.2.1 x.1.2.2.2.2.2.1.1 x.1.2.2.2.2.2.1.2 x.1.2.2.2.2.2.2.1 x.1.2.2.2.2.2.2.2.1 x.1.2.2.2.2.2.2.2.2.1 x.1.2.2.2.2.2.2.2.2.2.1 x.1.2.2.2.2.2.2.2.2.2.2.1.1 x.1.2.2.2.2.2.2.2.2.2.2.1.2) (inst 24 [.agg [.s, .b, .i IntKind.i64, .s, .s, .sl [Kd.s, Kd.b, Kd.i IntKind.i64, Kd.s], .s, .b, .i IntKind.i64, .s, .sl [Kd.s, Kd.b, Kd.i IntKind.i64, Kd.s, Kd.s, Kd.sl [Kd.s, Kd.b, Kd.i IntKind.i64, Kd.s], Kd.s, Kd.b, Kd.i IntKind.i64, Kd.s]], .agg [.i IntKind.i64, .s, .s, .s, .sl [Kd.b, Kd.i IntKind.i64, Kd.s], .sl [Kd.s, Kd.s, Kd.s, Kd.sl [Kd.b, Kd.i IntKind.i64, Kd.s]]]] [] (OSh.plain (.b) []) (fun x e => match_Follows_v n x.1.1 x.1.2.1 x.1.2.2.1 x.1.2.2.2.1 x.1.2.2.2.2.1 x.1.2.2.2.2.2.1.1 x.1.2.2.2.2.2.1.2 x.1.2.2.2.2.2.2.1 x.1.2.2.2.2.2.2.2.1 x.1.2.2.2.2.2.2.2.2.1 x.1.2.2.2.2.2.2.2.2.2.1 x.1.2.2.2.2.2.2.2.2.2.2.1.1 x.1.2.2.2.2.2.2.2.2.2.2.1.2 x.2.1.1 x.2.1.2.1 x.2.1.2.2.1 x.2.1.2.2.2.1 x.2.1.2.2.2.2.1.1 x.2.1.2.2.2.2.1.2 x.2.1.2.2.2.2.2.1.1 x.2.1.2.2.2.2.2.1.2) (inst 27 [.sl [Kd.s, Kd.s, Kd.s, Kd.sl [Kd.b, Kd.i IntKind.i64, Kd.s]]] [] (OSh.plain (.slt [Kd.s, Kd.s, Kd.s, Kd.sl [Kd.b, Kd.i IntKind.i64, Kd.s]] 0) []) (fun x e => ref04_Copy_v n x.1.1 x.1.2) Spec.none)))))))
theorem law11_MatchInstances_σok (n : Nat) : SpecOk Try.prog (law11_MatchInstances_σ n) := (inst_ok (fun x e y h => law11_light_c n x.1.1 x.1.2.1 x.1.2.2.1 x.1.2.2.2.1 x.1.2.2.2.2.1 x.1.2.2.2.2.2.1.1 x.1.2.2.2.2.2.1.2 x.1.2.2.2.2.2.2.1 x.1.2.2.2.2.2.2.2.1 x.1.2.2.2.2.2.2.2.2.1 x.1.2.2.2.2.2.2.2.2.2.1 x.1.2.2.2.2.2.2.2.2.2.2.1.1 x.1.2.2.2.2.2.2.2.2.2.2.1.2 x.2.1.1 x.2.1.2 x.2.2.1.1 x.2.2.1.2 y h) (inst_ok (fun x e y h => law11_live_c n y h) (inst_ok (fun x e y h => match_Head_c n x.1.1 x.1.2.1 x.1.2.2.1 x.1.2.2.2.1 x.1.2.2.2.2.1 x.1.2.2.2.2.2.1.1 x.1.2.2.2.2.2.1.2 x.1.2.2.2.2.2.2.1 x.1.2.2.2.2.2.2.2.1 x.1.2.2.2.2.2.2.2.2.1 x.1.2.2.2.2.2.2.2.2.2.1 x.1.2.2.2.2.2.2.2.2.2.2.1.1 x.1.2.2.2.2.2.2.2.2.2.2.1.2 x.2.1.1 x.2.1.2 y h) (inst_ok (fun x e y h => match_Body_c n x.1.1 x.1.2.1 x.1.2.2.1 x.1.2.2.2.1 x.1.2.2.2.2.1 x.1.2.2.2.2.2.1.1 x.1.2.2.2.2.2.1.2 x.1.2.2.2.2.2.2.1 x.1.2.2.2.2.2.2.2.1 x.1.2.2.2.2.2.2.2.2.1 x.1.2.2.2.2.2.2.2.2.2.1 x.1.2.2.2.2.2.2.2.2.2.2.1.1 x.1.2.2.2.2.2.2.2.2.2.2.1.2 x.2.1.1 x.2.1.2 y h) (inst_ok (fun x e y h => law11_open_c n x.1.1 x.1.2.1 x.1.2.2.1 x.1.2.2.2.1 x.1.2.2.2.2.1 x.1.2.2.2.2.2.1.1 x.1.2.2.2.2.2.1.2 x.1.2.2.2.2.2.2.1 x.1.2.2.2.2.2.2.2.1 x.1.2.2.2.2.2.2.2.2.1 x.1.2.2.2.2.2.2.2.2.2.1 x.1.2.2.2.2.2.2.2.2.2.2.1.1 x.1.2.2.2.2.2.2.2.2.2.2.1.2 y h) (inst_ok (fun x e y h => match_Follows_c n x.1.1 x.1.2.1 x.1.2.2.1 x.1.2.2.2.1 x.1.2.2.2.2.1 x.1.2.2.2.2.2.1.1 x.1.2.2.2.2.2.1.2 x.1.2.2.2.2.2.2.1 x.1.2.2.2.2.2.2.2.1 x.1.2.2.2.2.2.2.2.2.1 x.1.2.2.2.2.2.2.2.2.2.1 x.1.2.2.2.2.2.2.2.2.2.2.1.1 x.1.2.2.2.2.2.2.2.2.2.2.1.2 x.2.1.1 x.2.1.2.1 x.2.1.2.2.1 x.2.1.2.2.2.1 x.2.1.2.2.2.2.1.1 x.2.1.2.2.2.2.1.2 x.2.1.2.2.2.2.2.1.1 x.2.1.2.2.2.2.2.1.2 y h) (inst_ok (fun x e y h => ref04_Copy_c n x.1.1 x.1.2 y h) (SpecOk.none _))))))))
noncomputable def law11_MatchInstances_Φ (n : Nat) : Orc := with_ Try.prog (law11_MatchInstances_σ n) [] n 0 [1000053]
noncomputable def law11_MatchInstances_v (n : Nat) (s0 : ByteArray) (b1 : Bool) (j2 : Int) (s3 : ByteArray) (s4 : ByteArray) (b5 : Bool) (r6 : Rows) (s7 : ByteArray) (b8 : Bool) (j9 : Int) (s10 : ByteArray) (b11 : Bool) (r12 : Rows) (b13 : Bool) (r14 : Rows) (j15 : Int) : Option (Bool × Unit) :=
  DM.denFn tm (law11_MatchInstances_Φ n) law11_MatchInstances_lv n Try.f8 false [AV.agg [AV.dv (DV.val (Value.string s0)), AV.dv (DV.val (Value.bool b1)), AV.dv (DV.val (Value.int IntKind.i64 j2)), AV.dv (DV.val (Value.string s3)), AV.dv (DV.val (Value.string s4)), AV.sl b5 [Kd.s, Kd.b, Kd.i IntKind.i64, Kd.s] r6 Right.no, AV.dv (DV.val (Value.string s7)), AV.dv (DV.val (Value.bool b8)), AV.dv (DV.val (Value.int IntKind.i64 j9)), AV.dv (DV.val (Value.string s10)), AV.sl b11 [Kd.s, Kd.b, Kd.i IntKind.i64, Kd.s, Kd.s, Kd.sl [Kd.s, Kd.b, Kd.i IntKind.i64, Kd.s], Kd.s, Kd.b, Kd.i IntKind.i64, Kd.s] r12 Right.no], AV.sl b13 [Kd.s, Kd.b, Kd.i IntKind.i64, Kd.s] r14 Right.no, AV.dv (DV.val (Value.int IntKind.i64 j15))] [] (OSh.chk (OSh.plain (.b) []))
theorem law11_MatchInstances_e (n : Nat) (s0 : ByteArray) (b1 : Bool) (j2 : Int) (s3 : ByteArray) (s4 : ByteArray) (b5 : Bool) (r6 : Rows) (s7 : ByteArray) (b8 : Bool) (j9 : Int) (s10 : ByteArray) (b11 : Bool) (r12 : Rows) (b13 : Bool) (r14 : Rows) (j15 : Int) : law11_MatchInstances_v n s0 b1 j2 s3 s4 b5 r6 s7 b8 j9 s10 b11 r12 b13 r14 j15 =
  obind (law11_light_v n s0 b1 j2 s3 s4 b5 r6 s7 b8 j9 s10 b11 r12 true [] b13 r14) fun y16 =>
  bif !y16.fst then
    obind (law11_live_v n) fun y17 =>
    some (y17.fst, ())
  else obind (match_Head_v n s0 b1 j2 s3 s4 b5 r6 s7 b8 j9 s10 b11 r12 b13 r14) fun y18 =>
  obind (match_Body_v n s0 b1 j2 s3 s4 b5 r6 s7 b8 j9 s10 b11 r12 b13 r14) fun y19 =>
  bif !y18.fst.snd.fst then
    obind (law11_live_v n) fun y20 =>
    some (y20.fst, ())
  else bif !y19.fst.snd.fst then
    obind (law11_live_v n) fun y21 =>
    some (y21.fst, ())
  else obind (law11_open_v n s0 b1 j2 s3 s4 b5 r6 s7 b8 j9 s10 b11 r12) fun y22 =>
  bif y22.fst then
    obind (law11_live_v n) fun y23 =>
    some (y23.fst, ())
  else obind (match_Follows_v n s0 b1 j2 s3 s4 b5 r6 s7 b8 j9 s10 b11 r12 0 y18.fst.fst.fst y18.fst.fst.snd.fst y18.fst.fst.snd.snd.fst y18.fst.fst.snd.snd.snd.fst.fst y18.fst.fst.snd.snd.snd.fst.snd y19.fst.fst.fst y19.fst.fst.snd) fun y24 =>
  bif !y24.fst then
    some (false, ())
  else bif (↑(List.length y19.fst.fst.snd) : Int) == 0 then
    obind (law11_live_v n) fun y25 =>
    some (y25.fst, ())
  else obind (ref04_Copy_v n y19.fst.fst.fst y19.fst.fst.snd) fun y26 =>
  if (↑(List.length y26.fst.snd) : Int) = 0 then
    none
  else if (↑(List.length y26.fst.snd) : Int) = 0 then
    none
  else bif y26.fst.fst || List.isEmpty y26.fst.snd then
    if 0 ≤ Int.tmod (IntKind.wrap IntKind.i64 (Int.tmod j15 (↑(List.length y26.fst.snd) : Int) + (↑(List.length y26.fst.snd) : Int))) (↑(List.length y26.fst.snd) : Int) then
      if Int.tmod (IntKind.wrap IntKind.i64 (Int.tmod j15 (↑(List.length y26.fst.snd) : Int) + (↑(List.length y26.fst.snd) : Int))) (↑(List.length y26.fst.snd) : Int) < (↑0 : Int) then
        if 0 ≤ Int.tmod (IntKind.wrap IntKind.i64 (Int.tmod j15 (↑(List.length y26.fst.snd) : Int) + (↑(List.length y26.fst.snd) : Int))) (↑(List.length y26.fst.snd) : Int) then
          if Int.tmod (IntKind.wrap IntKind.i64 (Int.tmod j15 (↑(List.length y26.fst.snd) : Int) + (↑(List.length y26.fst.snd) : Int))) (↑(List.length y26.fst.snd) : Int) < (↑0 : Int) then
            none
          else none
        else none
      else none
    else none
  else if 0 ≤ Int.tmod (IntKind.wrap IntKind.i64 (Int.tmod j15 (↑(List.length y26.fst.snd) : Int) + (↑(List.length y26.fst.snd) : Int))) (↑(List.length y26.fst.snd) : Int) then
    if Int.tmod (IntKind.wrap IntKind.i64 (Int.tmod j15 (↑(List.length y26.fst.snd) : Int) + (↑(List.length y26.fst.snd) : Int))) (↑(List.length y26.fst.snd) : Int) < (↑(List.length y26.fst.snd) : Int) then
      if 0 + Int.toNat (Int.tmod (IntKind.wrap IntKind.i64 (Int.tmod j15 (↑(List.length y26.fst.snd) : Int) + (↑(List.length y26.fst.snd) : Int))) (↑(List.length y26.fst.snd) : Int)) < List.length y26.fst.snd then
        if ByteArray.size (Row.S (List.getD y26.fst.snd (0 + Int.toNat (Int.tmod (IntKind.wrap IntKind.i64 (Int.tmod j15 (↑(List.length y26.fst.snd) : Int) + (↑(List.length y26.fst.snd) : Int))) (↑(List.length y26.fst.snd) : Int))) []) 2) + 1 < 4611686018427387904 then
          if 0 ≤ Int.tmod (IntKind.wrap IntKind.i64 (Int.tmod j15 (↑(List.length y26.fst.snd) : Int) + (↑(List.length y26.fst.snd) : Int))) (↑(List.length y26.fst.snd) : Int) then
            if Int.tmod (IntKind.wrap IntKind.i64 (Int.tmod j15 (↑(List.length y26.fst.snd) : Int) + (↑(List.length y26.fst.snd) : Int))) (↑(List.length y26.fst.snd) : Int) < (↑(List.length y26.fst.snd) : Int) then
              if 0 + Int.toNat (Int.tmod (IntKind.wrap IntKind.i64 (Int.tmod j15 (↑(List.length y26.fst.snd) : Int) + (↑(List.length y26.fst.snd) : Int))) (↑(List.length y26.fst.snd) : Int)) < List.length y26.fst.snd then
                if 0 + List.length y26.fst.snd ≤ List.length (List.set y26.fst.snd (0 + Int.toNat (Int.tmod (IntKind.wrap IntKind.i64 (Int.tmod j15 (↑(List.length y26.fst.snd) : Int) + (↑(List.length y26.fst.snd) : Int))) (↑(List.length y26.fst.snd) : Int))) (spliceD (List.getD y26.fst.snd (0 + Int.toNat (Int.tmod (IntKind.wrap IntKind.i64 (Int.tmod j15 (↑(List.length y26.fst.snd) : Int) + (↑(List.length y26.fst.snd) : Int))) (↑(List.length y26.fst.snd) : Int))) []) 2 [DV.val (Value.string (Row.S (List.getD y26.fst.snd (0 + Int.toNat (Int.tmod (IntKind.wrap IntKind.i64 (Int.tmod j15 (↑(List.length y26.fst.snd) : Int) + (↑(List.length y26.fst.snd) : Int))) (↑(List.length y26.fst.snd) : Int))) []) 2 ++ ByteArray.mk #[120]))])) then
                  obind (match_Follows_v n s0 b1 j2 s3 s4 b5 r6 s7 b8 j9 s10 b11 r12 0 y18.fst.fst.fst y18.fst.fst.snd.fst y18.fst.fst.snd.snd.fst y18.fst.fst.snd.snd.snd.fst.fst y18.fst.fst.snd.snd.snd.fst.snd false (List.take (List.length y26.fst.snd) (List.drop 0 (List.set y26.fst.snd (0 + Int.toNat (Int.tmod (IntKind.wrap IntKind.i64 (Int.tmod j15 (↑(List.length y26.fst.snd) : Int) + (↑(List.length y26.fst.snd) : Int))) (↑(List.length y26.fst.snd) : Int))) (spliceD (List.getD y26.fst.snd (0 + Int.toNat (Int.tmod (IntKind.wrap IntKind.i64 (Int.tmod j15 (↑(List.length y26.fst.snd) : Int) + (↑(List.length y26.fst.snd) : Int))) (↑(List.length y26.fst.snd) : Int))) []) 2 [DV.val (Value.string (Row.S (List.getD y26.fst.snd (0 + Int.toNat (Int.tmod (IntKind.wrap IntKind.i64 (Int.tmod j15 (↑(List.length y26.fst.snd) : Int) + (↑(List.length y26.fst.snd) : Int))) (↑(List.length y26.fst.snd) : Int))) []) 2 ++ ByteArray.mk #[120]))]))))) fun y27 =>
                  bif !y27.fst then
                    if 1 ≤ (↑(List.length (List.take (List.length y26.fst.snd) (List.drop 0 (List.set y26.fst.snd (0 + Int.toNat (Int.tmod (IntKind.wrap IntKind.i64 (Int.tmod j15 (↑(List.length y26.fst.snd) : Int) + (↑(List.length y26.fst.snd) : Int))) (↑(List.length y26.fst.snd) : Int))) (spliceD (List.getD y26.fst.snd (0 + Int.toNat (Int.tmod (IntKind.wrap IntKind.i64 (Int.tmod j15 (↑(List.length y26.fst.snd) : Int) + (↑(List.length y26.fst.snd) : Int))) (↑(List.length y26.fst.snd) : Int))) []) 2 [DV.val (Value.string (Row.S (List.getD y26.fst.snd (0 + Int.toNat (Int.tmod (IntKind.wrap IntKind.i64 (Int.tmod j15 (↑(List.length y26.fst.snd) : Int) + (↑(List.length y26.fst.snd) : Int))) (↑(List.length y26.fst.snd) : Int))) []) 2 ++ ByteArray.mk #[120]))]))))) : Int) then
                      if (↑(List.length (List.take (List.length y26.fst.snd) (List.drop 0 (List.set y26.fst.snd (0 + Int.toNat (Int.tmod (IntKind.wrap IntKind.i64 (Int.tmod j15 (↑(List.length y26.fst.snd) : Int) + (↑(List.length y26.fst.snd) : Int))) (↑(List.length y26.fst.snd) : Int))) (spliceD (List.getD y26.fst.snd (0 + Int.toNat (Int.tmod (IntKind.wrap IntKind.i64 (Int.tmod j15 (↑(List.length y26.fst.snd) : Int) + (↑(List.length y26.fst.snd) : Int))) (↑(List.length y26.fst.snd) : Int))) []) 2 [DV.val (Value.string (Row.S (List.getD y26.fst.snd (0 + Int.toNat (Int.tmod (IntKind.wrap IntKind.i64 (Int.tmod j15 (↑(List.length y26.fst.snd) : Int) + (↑(List.length y26.fst.snd) : Int))) (↑(List.length y26.fst.snd) : Int))) []) 2 ++ ByteArray.mk #[120]))]))))) : Int) ≤ (↑(List.length (List.take (List.length y26.fst.snd) (List.drop 0 (List.set y26.fst.snd (0 + Int.toNat (Int.tmod (IntKind.wrap IntKind.i64 (Int.tmod j15 (↑(List.length y26.fst.snd) : Int) + (↑(List.length y26.fst.snd) : Int))) (↑(List.length y26.fst.snd) : Int))) (spliceD (List.getD y26.fst.snd (0 + Int.toNat (Int.tmod (IntKind.wrap IntKind.i64 (Int.tmod j15 (↑(List.length y26.fst.snd) : Int) + (↑(List.length y26.fst.snd) : Int))) (↑(List.length y26.fst.snd) : Int))) []) 2 [DV.val (Value.string (Row.S (List.getD y26.fst.snd (0 + Int.toNat (Int.tmod (IntKind.wrap IntKind.i64 (Int.tmod j15 (↑(List.length y26.fst.snd) : Int) + (↑(List.length y26.fst.snd) : Int))) (↑(List.length y26.fst.snd) : Int))) []) 2 ++ ByteArray.mk #[120]))]))))) : Int) then
                        obind (match_Follows_v n s0 b1 j2 s3 s4 b5 r6 s7 b8 j9 s10 b11 r12 0 y18.fst.fst.fst y18.fst.fst.snd.fst y18.fst.fst.snd.snd.fst y18.fst.fst.snd.snd.snd.fst.fst y18.fst.fst.snd.snd.snd.fst.snd false (List.drop 1 (List.take (Int.toNat (↑(List.length (List.take (List.length y26.fst.snd) (List.drop 0 (List.set y26.fst.snd (0 + Int.toNat (Int.tmod (IntKind.wrap IntKind.i64 (Int.tmod j15 (↑(List.length y26.fst.snd) : Int) + (↑(List.length y26.fst.snd) : Int))) (↑(List.length y26.fst.snd) : Int))) (spliceD (List.getD y26.fst.snd (0 + Int.toNat (Int.tmod (IntKind.wrap IntKind.i64 (Int.tmod j15 (↑(List.length y26.fst.snd) : Int) + (↑(List.length y26.fst.snd) : Int))) (↑(List.length y26.fst.snd) : Int))) []) 2 [DV.val (Value.string (Row.S (List.getD y26.fst.snd (0 + Int.toNat (Int.tmod (IntKind.wrap IntKind.i64 (Int.tmod j15 (↑(List.length y26.fst.snd) : Int) + (↑(List.length y26.fst.snd) : Int))) (↑(List.length y26.fst.snd) : Int))) []) 2 ++ ByteArray.mk #[120]))]))))) : Int)) (List.take (List.length y26.fst.snd) (List.drop 0 (List.set y26.fst.snd (0 + Int.toNat (Int.tmod (IntKind.wrap IntKind.i64 (Int.tmod j15 (↑(List.length y26.fst.snd) : Int) + (↑(List.length y26.fst.snd) : Int))) (↑(List.length y26.fst.snd) : Int))) (spliceD (List.getD y26.fst.snd (0 + Int.toNat (Int.tmod (IntKind.wrap IntKind.i64 (Int.tmod j15 (↑(List.length y26.fst.snd) : Int) + (↑(List.length y26.fst.snd) : Int))) (↑(List.length y26.fst.snd) : Int))) []) 2 [DV.val (Value.string (Row.S (List.getD y26.fst.snd (0 + Int.toNat (Int.tmod (IntKind.wrap IntKind.i64 (Int.tmod j15 (↑(List.length y26.fst.snd) : Int) + (↑(List.length y26.fst.snd) : Int))) (↑(List.length y26.fst.snd) : Int))) []) 2 ++ ByteArray.mk #[120]))]))))))) fun y28 =>
                        bif !y28.fst then
                          obind (law11_live_v n) fun y29 =>
                          some (y29.fst, ())
                        else some (false, ())
                      else none
                    else none
                  else some (false, ())
                else none
              else none
            else none
          else none
        else none
      else none
    else none
  else none := by kernel_rfl
theorem law11_MatchInstances_c (n : Nat) (s0 : ByteArray) (b1 : Bool) (j2 : Int) (s3 : ByteArray) (s4 : ByteArray) (b5 : Bool) (r6 : Rows) (s7 : ByteArray) (b8 : Bool) (j9 : Int) (s10 : ByteArray) (b11 : Bool) (r12 : Rows) (b13 : Bool) (r14 : Rows) (j15 : Int) (y : Bool × Unit) (h : law11_MatchInstances_v n s0 b1 j2 s3 s4 b5 r6 s7 b8 j9 s10 b11 r12 b13 r14 j15 = some y) : Contract Try.prog 8 [AV.agg [AV.dv (DV.val (Value.string s0)), AV.dv (DV.val (Value.bool b1)), AV.dv (DV.val (Value.int IntKind.i64 j2)), AV.dv (DV.val (Value.string s3)), AV.dv (DV.val (Value.string s4)), AV.sl b5 [Kd.s, Kd.b, Kd.i IntKind.i64, Kd.s] r6 Right.no, AV.dv (DV.val (Value.string s7)), AV.dv (DV.val (Value.bool b8)), AV.dv (DV.val (Value.int IntKind.i64 j9)), AV.dv (DV.val (Value.string s10)), AV.sl b11 [Kd.s, Kd.b, Kd.i IntKind.i64, Kd.s, Kd.s, Kd.sl [Kd.s, Kd.b, Kd.i IntKind.i64, Kd.s], Kd.s, Kd.b, Kd.i IntKind.i64, Kd.s] r12 Right.no], AV.sl b13 [Kd.s, Kd.b, Kd.i IntKind.i64, Kd.s] r14 Right.no, AV.dv (DV.val (Value.int IntKind.i64 j15))] [] (OSh.enc (OSh.plain (.b) []) y) :=
  auto_okM tm_std (with_ok mixed (by kernel_rfl) (law11_MatchInstances_σok n) n 0 [1000053]) (with_pick mixed (by kernel_rfl) (law11_MatchInstances_σok n) n 0 [1000053]) mixed Try.func8 (by decide) (o := (OSh.plain (.b) [])) h
/-! ref11_Name: function 36 -/
def ref11_Name_lv : Live := []
noncomputable def ref11_Name_σ (n : Nat) : Spec := Spec.none
theorem ref11_Name_σok (n : Nat) : SpecOk Try.prog (ref11_Name_σ n) := (SpecOk.none _)
noncomputable def ref11_Name_Φ (n : Nat) : Orc := with_ Try.prog (ref11_Name_σ n) [] n 0 [1000053]
noncomputable def ref11_Name_v (n : Nat) (s0 : ByteArray) : Option ((Bool × Int × ByteArray × Unit) × Unit) :=
  DM.denFn tm (ref11_Name_Φ n) ref11_Name_lv n Try.f36 false [AV.dv (DV.val (Value.string s0))] [] (OSh.chk (OSh.plain (.agg [.b, .i IntKind.i64, .s]) []))
theorem ref11_Name_e (n : Nat) (s0 : ByteArray) : ref11_Name_v n s0 =
  some ((false, (0, (s0, ()))), ()) := by kernel_rfl
theorem ref11_Name_c (n : Nat) (s0 : ByteArray) (y : (Bool × Int × ByteArray × Unit) × Unit) (h : ref11_Name_v n s0 = some y) : Contract Try.prog 36 [AV.dv (DV.val (Value.string s0))] [] (OSh.enc (OSh.plain (.agg [.b, .i IntKind.i64, .s]) []) y) :=
  auto_okM tm_std (with_ok mixed (by kernel_rfl) (ref11_Name_σok n) n 0 [1000053]) (with_pick mixed (by kernel_rfl) (ref11_Name_σok n) n 0 [1000053]) mixed Try.func36 (by decide) (o := (OSh.plain (.agg [.b, .i IntKind.i64, .s]) [])) h
/-! ref11_none: function 30 -/
def ref11_none_lv : Live := []
noncomputable def ref11_none_σ (n : Nat) : Spec := Spec.none
theorem ref11_none_σok (n : Nat) : SpecOk Try.prog (ref11_none_σ n) := (SpecOk.none _)
noncomputable def ref11_none_Φ (n : Nat) : Orc := with_ Try.prog (ref11_none_σ n) [] n 0 [1000053]
noncomputable def ref11_none_v (n : Nat) (s0 : ByteArray) (b1 : Bool) (j2 : Int) (s3 : ByteArray) : Option (Bool × Unit) :=
  DM.denFn tm (ref11_none_Φ n) ref11_none_lv n Try.f30 false [AV.agg [AV.dv (DV.val (Value.string s0)), AV.dv (DV.val (Value.bool b1)), AV.dv (DV.val (Value.int IntKind.i64 j2)), AV.dv (DV.val (Value.string s3))]] [] (OSh.chk (OSh.plain (.b) []))
theorem ref11_none_e (n : Nat) (s0 : ByteArray) (b1 : Bool) (j2 : Int) (s3 : ByteArray) : ref11_none_v n s0 b1 j2 s3 =
  some (s0 == ByteArray.mk #[] && (b1 == false && (j2 == 0 && (s3 == ByteArray.mk #[] && true))), ()) := by kernel_rfl
theorem ref11_none_c (n : Nat) (s0 : ByteArray) (b1 : Bool) (j2 : Int) (s3 : ByteArray) (y : Bool × Unit) (h : ref11_none_v n s0 b1 j2 s3 = some y) : Contract Try.prog 30 [AV.agg [AV.dv (DV.val (Value.string s0)), AV.dv (DV.val (Value.bool b1)), AV.dv (DV.val (Value.int IntKind.i64 j2)), AV.dv (DV.val (Value.string s3))]] [] (OSh.enc (OSh.plain (.b) []) y) :=
  auto_okM tm_std (with_ok mixed (by kernel_rfl) (ref11_none_σok n) n 0 [1000053]) (with_pick mixed (by kernel_rfl) (ref11_none_σok n) n 0 [1000053]) mixed Try.func30 (by decide) (o := (OSh.plain (.b) [])) h
/-! ref11_Value: function 11 -/
def ref11_Value_lv : Live := [(6, [1, 2, 4, 6], [2, 4, 1000, 1001, 1002, 1003])]
noncomputable def ref11_Value_σ (n : Nat) : Spec := (inst 30 [.agg [.s, .b, .i IntKind.i64, .s]] [] (OSh.plain (.b) []) (fun x e => ref11_none_v n x.1.1 x.1.2.1 x.1.2.2.1 x.1.2.2.2.1) Spec.none)
theorem ref11_Value_σok (n : Nat) : SpecOk Try.prog (ref11_Value_σ n) := (inst_ok (fun x e y h => ref11_none_c n x.1.1 x.1.2.1 x.1.2.2.1 x.1.2.2.2.1 y h) (SpecOk.none _))
noncomputable def ref11_Value_Φ (n : Nat) : Orc := with_ Try.prog (ref11_Value_σ n) [] n 0 [1000053]
noncomputable def ref11_Value_v (n : Nat) (s0 : ByteArray) (b1 : Bool) (j2 : Int) (s3 : ByteArray) (b4 : Bool) (r5 : Rows) : Option (((Bool × Int × ByteArray × Unit) × Bool × Unit) × Unit) :=
  DM.denFn tm (ref11_Value_Φ n) ref11_Value_lv n Try.f11 false [AV.agg [AV.dv (DV.val (Value.string s0)), AV.dv (DV.val (Value.bool b1)), AV.dv (DV.val (Value.int IntKind.i64 j2)), AV.dv (DV.val (Value.string s3))], AV.sl b4 [Kd.s, Kd.b, Kd.i IntKind.i64, Kd.s] r5 Right.no] [] (OSh.chk (OSh.plain (.tup [.agg [.b, .i IntKind.i64, .s], .b]) []))
noncomputable def ref11_Value_l6 (n : Nat) (s0 : ByteArray) (b1 : Bool) (j2 : Int) (s3 : ByteArray) (b4 : Bool) (r5 : Rows) (i0 : Nat) (j7 : Int) : Option (((Bool × Int × ByteArray × Unit) × Bool × Unit) × Unit) :=
  DM.loopFn tm (ref11_Value_Φ n) ref11_Value_lv n Try.f11 false [] (OSh.chk (OSh.plain (.tup [.agg [.b, .i IntKind.i64, .s], .b]) [])) 6 [] i0 (St.mk [AV.junk, AV.sl b4 [Kd.s, Kd.b, Kd.i IntKind.i64, Kd.s] r5 Right.no, AV.pl 2 0, AV.junk, AV.pl 4 0, AV.junk, AV.dv (DV.val (Value.int IntKind.i64 j7)), AV.junk, AV.junk, AV.junk, AV.junk, AV.junk, AV.junk, AV.junk, AV.junk, AV.junk, AV.junk, AV.junk, AV.junk, AV.junk, AV.junk, AV.junk, AV.junk, AV.junk, AV.junk, AV.junk, AV.junk, AV.junk, AV.junk, AV.junk, AV.junk, AV.junk, AV.junk, AV.junk, AV.junk] [(2, [AV.dv (DV.val (Value.string s0)), AV.dv (DV.val (Value.bool b1)), AV.dv (DV.val (Value.int IntKind.i64 j2)), AV.dv (DV.val (Value.string s3))]), (4, [AV.dv (DV.val (Value.bool false)), AV.dv (DV.val (Value.int IntKind.i64 0)), AV.dv (DV.val (Value.string (ByteArray.mk #[])))])])
theorem ref11_Value_s6 (n : Nat) (s0 : ByteArray) (b1 : Bool) (j2 : Int) (s3 : ByteArray) (b4 : Bool) (r5 : Rows) (i0 : Nat) (j7 : Int) : ref11_Value_l6 n s0 b1 j2 s3 b4 r5 (i0 + 1) j7 =
  bif decide (j7 < (↑(List.length r5) : Int)) then
    if 0 ≤ j7 then
      if j7 < (↑(List.length r5) : Int) then
        bif Row.S (List.getD r5 (Int.toNat j7) []) 0 == s0 then
          if 0 ≤ j7 then
            if j7 < (↑(List.length r5) : Int) then
              some (((Row.B (List.getD r5 (Int.toNat j7) []) 1, (Row.I (List.getD r5 (Int.toNat j7) []) 2, (Row.S (List.getD r5 (Int.toNat j7) []) 3, ()))), (true, ())), ())
            else none
          else none
        else ref11_Value_l6 n s0 b1 j2 s3 b4 r5 i0 (IntKind.wrap IntKind.i64 (j7 + 1))
      else none
    else none
  else some (((false, (0, (ByteArray.mk #[], ()))), (false, ())), ()) := by kernel_rfl
theorem ref11_Value_e (n : Nat) (s0 : ByteArray) (b1 : Bool) (j2 : Int) (s3 : ByteArray) (b4 : Bool) (r5 : Rows) : ref11_Value_v n s0 b1 j2 s3 b4 r5 =
  obind (ref11_none_v n s0 b1 j2 s3) fun y6 =>
  bif y6.fst then
    some (((false, (0, (ByteArray.mk #[], ()))), (false, ())), ())
  else bif s0 == ByteArray.mk #[] then
    some (((b1, (j2, (s3, ()))), (true, ())), ())
  else ref11_Value_l6 n s0 b1 j2 s3 b4 r5 n 0 := by kernel_rfl
theorem ref11_Value_c (n : Nat) (s0 : ByteArray) (b1 : Bool) (j2 : Int) (s3 : ByteArray) (b4 : Bool) (r5 : Rows) (y : ((Bool × Int × ByteArray × Unit) × Bool × Unit) × Unit) (h : ref11_Value_v n s0 b1 j2 s3 b4 r5 = some y) : Contract Try.prog 11 [AV.agg [AV.dv (DV.val (Value.string s0)), AV.dv (DV.val (Value.bool b1)), AV.dv (DV.val (Value.int IntKind.i64 j2)), AV.dv (DV.val (Value.string s3))], AV.sl b4 [Kd.s, Kd.b, Kd.i IntKind.i64, Kd.s] r5 Right.no] [] (OSh.enc (OSh.plain (.tup [.agg [.b, .i IntKind.i64, .s], .b]) []) y) :=
  auto_okM tm_std (with_ok mixed (by kernel_rfl) (ref11_Value_σok n) n 0 [1000053]) (with_pick mixed (by kernel_rfl) (ref11_Value_σok n) n 0 [1000053]) mixed Try.func11 (by decide) (o := (OSh.plain (.tup [.agg [.b, .i IntKind.i64, .s], .b]) [])) h
/-! ref11_Unify: function 13 -/
def ref11_Unify_lv : Live := []
noncomputable def ref11_Unify_σ (n : Nat) : Spec := (inst 11 [.agg [.s, .b, .i IntKind.i64, .s], .sl [Kd.s, Kd.b, Kd.i IntKind.i64, Kd.s]] [] (OSh.plain (.tup [.agg [.b, .i IntKind.i64, .s], .b]) []) (fun x e => ref11_Value_v n x.1.1 x.1.2.1 x.1.2.2.1 x.1.2.2.2.1 x.2.1.1 x.2.1.2) (inst 30 [.agg [.s, .b, .i IntKind.i64, .s]] [] (OSh.plain (.b) []) (fun x e => ref11_none_v n x.1.1 x.1.2.1 x.1.2.2.1 x.1.2.2.2.1) Spec.none))
theorem ref11_Unify_σok (n : Nat) : SpecOk Try.prog (ref11_Unify_σ n) := (inst_ok (fun x e y h => ref11_Value_c n x.1.1 x.1.2.1 x.1.2.2.1 x.1.2.2.2.1 x.2.1.1 x.2.1.2 y h) (inst_ok (fun x e y h => ref11_none_c n x.1.1 x.1.2.1 x.1.2.2.1 x.1.2.2.2.1 y h) (SpecOk.none _)))
noncomputable def ref11_Unify_Φ (n : Nat) : Orc := with_ Try.prog (ref11_Unify_σ n) [] n 0 [1000053]
noncomputable def ref11_Unify_v (n : Nat) (s0 : ByteArray) (b1 : Bool) (j2 : Int) (s3 : ByteArray) (b4 : Bool) (j5 : Int) (s6 : ByteArray) (b7 : Bool) (r8 : Rows) : Option (((Bool × Rows) × Bool × Unit) × Unit) :=
  DM.denFn tm (ref11_Unify_Φ n) ref11_Unify_lv n Try.f13 true [AV.agg [AV.dv (DV.val (Value.string s0)), AV.dv (DV.val (Value.bool b1)), AV.dv (DV.val (Value.int IntKind.i64 j2)), AV.dv (DV.val (Value.string s3))], AV.agg [AV.dv (DV.val (Value.bool b4)), AV.dv (DV.val (Value.int IntKind.i64 j5)), AV.dv (DV.val (Value.string s6))], AV.sl b7 [Kd.s, Kd.b, Kd.i IntKind.i64, Kd.s] r8 Right.no] [] (OSh.chk (OSh.plain (.tup [.slt [Kd.s, Kd.b, Kd.i IntKind.i64, Kd.s] 0, .b]) []))
theorem ref11_Unify_e (n : Nat) (s0 : ByteArray) (b1 : Bool) (j2 : Int) (s3 : ByteArray) (b4 : Bool) (j5 : Int) (s6 : ByteArray) (b7 : Bool) (r8 : Rows) : ref11_Unify_v n s0 b1 j2 s3 b4 j5 s6 b7 r8 =
  obind (ref11_Value_v n s0 b1 j2 s3 b7 r8) fun y9 =>
  if (0 + List.length r8) * 48 ≤ 140737488355328 then
    bif y9.fst.snd.fst then
      bif y9.fst.fst.fst == b4 && (y9.fst.fst.snd.fst == j5 && (y9.fst.fst.snd.snd.fst == s6 && true)) then
        some (((false && List.isEmpty r8, appX [] r8), (true, ())), ())
      else some (((true, []), (false, ())), ())
    else obind (ref11_none_v n s0 b1 j2 s3) fun y10 =>
    bif y10.fst then
      some (((true, []), (false, ())), ())
    else if (List.length (appX [] r8) + List.length [[DV.val (Value.string s0), DV.val (Value.bool b4), DV.val (Value.int IntKind.i64 j5), DV.val (Value.string s6)]]) * 48 ≤ 140737488355328 then
      some (((false && List.isEmpty r8 && List.isEmpty [[DV.val (Value.string s0), DV.val (Value.bool b4), DV.val (Value.int IntKind.i64 j5), DV.val (Value.string s6)]], appX (appX [] r8) [[DV.val (Value.string s0), DV.val (Value.bool b4), DV.val (Value.int IntKind.i64 j5), DV.val (Value.string s6)]]), (true, ())), ())
    else none
  else none := by kernel_rfl
theorem ref11_Unify_c (n : Nat) (s0 : ByteArray) (b1 : Bool) (j2 : Int) (s3 : ByteArray) (b4 : Bool) (j5 : Int) (s6 : ByteArray) (b7 : Bool) (r8 : Rows) (y : ((Bool × Rows) × Bool × Unit) × Unit) (h : ref11_Unify_v n s0 b1 j2 s3 b4 j5 s6 b7 r8 = some y) : Contract Try.prog 13 [AV.agg [AV.dv (DV.val (Value.string s0)), AV.dv (DV.val (Value.bool b1)), AV.dv (DV.val (Value.int IntKind.i64 j2)), AV.dv (DV.val (Value.string s3))], AV.agg [AV.dv (DV.val (Value.bool b4)), AV.dv (DV.val (Value.int IntKind.i64 j5)), AV.dv (DV.val (Value.string s6))], AV.sl b7 [Kd.s, Kd.b, Kd.i IntKind.i64, Kd.s] r8 Right.no] [] (OSh.enc (OSh.plain (.tup [.slt [Kd.s, Kd.b, Kd.i IntKind.i64, Kd.s] 0, .b]) []) y) :=
  auto_okM tm_std (with_ok mixed (by kernel_rfl) (ref11_Unify_σok n) n 0 [1000053]) (with_pick mixed (by kernel_rfl) (ref11_Unify_σok n) n 0 [1000053]) mixed Try.func13 (by decide) (o := (OSh.plain (.tup [.slt [Kd.s, Kd.b, Kd.i IntKind.i64, Kd.s] 0, .b]) [])) h
/-! ref11_Literal: function 17 -/
def ref11_Literal_lv : Live := [(16, [5, 6, 11, 13], [5, 6, 1000, 1001, 1002, 1003])]
noncomputable def ref11_Literal_σ (n : Nat) : Spec := (inst 30 [.agg [.s, .b, .i IntKind.i64, .s]] [] (OSh.plain (.b) []) (fun x e => ref11_none_v n x.1.1 x.1.2.1 x.1.2.2.1 x.1.2.2.2.1) (inst 36 [.s] [] (OSh.plain (.agg [.b, .i IntKind.i64, .s]) []) (fun x e => ref11_Name_v n x.1) (inst 13 [.agg [.s, .b, .i IntKind.i64, .s], .agg [.b, .i IntKind.i64, .s], .sl [Kd.s, Kd.b, Kd.i IntKind.i64, Kd.s]] [] (OSh.plain (.tup [.slt [Kd.s, Kd.b, Kd.i IntKind.i64, Kd.s] 0, .b]) []) (fun x e => ref11_Unify_v n x.1.1 x.1.2.1 x.1.2.2.1 x.1.2.2.2.1 x.2.1.1 x.2.1.2.1 x.2.1.2.2.1 x.2.2.1.1 x.2.2.1.2) Spec.none)))
theorem ref11_Literal_σok (n : Nat) : SpecOk Try.prog (ref11_Literal_σ n) := (inst_ok (fun x e y h => ref11_none_c n x.1.1 x.1.2.1 x.1.2.2.1 x.1.2.2.2.1 y h) (inst_ok (fun x e y h => ref11_Name_c n x.1 y h) (inst_ok (fun x e y h => ref11_Unify_c n x.1.1 x.1.2.1 x.1.2.2.1 x.1.2.2.2.1 x.2.1.1 x.2.1.2.1 x.2.1.2.2.1 x.2.2.1.1 x.2.2.1.2 y h) (SpecOk.none _))))
noncomputable def ref11_Literal_Φ (n : Nat) : Orc := with_ Try.prog (ref11_Literal_σ n) [] n 0 [1000053]
noncomputable def ref11_Literal_v (n : Nat) (s0 : ByteArray) (b1 : Bool) (j2 : Int) (s3 : ByteArray) (s4 : ByteArray) (b5 : Bool) (j6 : Int) (s7 : ByteArray) (s8 : ByteArray) (b9 : Bool) (r10 : Rows) (s11 : ByteArray) (b12 : Bool) (j13 : Int) (s14 : ByteArray) (s15 : ByteArray) (s16 : ByteArray) (s17 : ByteArray) (b18 : Bool) (r19 : Rows) (b20 : Bool) (r21 : Rows) : Option (((Bool × Rows) × Bool × Unit) × Unit) :=
  DM.denFn tm (ref11_Literal_Φ n) ref11_Literal_lv n Try.f17 true [AV.agg [AV.dv (DV.val (Value.string s0)), AV.dv (DV.val (Value.bool b1)), AV.dv (DV.val (Value.int IntKind.i64 j2)), AV.dv (DV.val (Value.string s3))], AV.agg [AV.dv (DV.val (Value.string s4)), AV.dv (DV.val (Value.bool b5)), AV.dv (DV.val (Value.int IntKind.i64 j6)), AV.dv (DV.val (Value.string s7)), AV.dv (DV.val (Value.string s8)), AV.sl b9 [Kd.s, Kd.b, Kd.i IntKind.i64, Kd.s] r10 Right.no, AV.dv (DV.val (Value.string s11)), AV.dv (DV.val (Value.bool b12)), AV.dv (DV.val (Value.int IntKind.i64 j13)), AV.dv (DV.val (Value.string s14))], AV.agg [AV.dv (DV.val (Value.string s15)), AV.dv (DV.val (Value.string s16)), AV.dv (DV.val (Value.string s17)), AV.sl b18 [Kd.b, Kd.i IntKind.i64, Kd.s] r19 Right.no], AV.sl b20 [Kd.s, Kd.b, Kd.i IntKind.i64, Kd.s] r21 Right.no] [] (OSh.chk (OSh.plain (.tup [.slt [Kd.s, Kd.b, Kd.i IntKind.i64, Kd.s] 0, .b]) []))
noncomputable def ref11_Literal_l16 (n : Nat) (s0 : ByteArray) (b1 : Bool) (j2 : Int) (s3 : ByteArray) (s4 : ByteArray) (b5 : Bool) (j6 : Int) (s7 : ByteArray) (s8 : ByteArray) (b9 : Bool) (r10 : Rows) (s11 : ByteArray) (b12 : Bool) (j13 : Int) (s14 : ByteArray) (s15 : ByteArray) (s16 : ByteArray) (s17 : ByteArray) (b18 : Bool) (r19 : Rows) (b20 : Bool) (r21 : Rows) (i0 : Nat) (b33 : Bool) (r34 : List (List DV)) (j36 : Int) : Option (((Bool × Rows) × Bool × Unit) × Unit) :=
  DM.loopFn tm (ref11_Literal_Φ n) ref11_Literal_lv n Try.f17 true [] (OSh.chk (OSh.plain (.tup [.slt [Kd.s, Kd.b, Kd.i IntKind.i64, Kd.s] 0, .b]) [])) 16 [] i0 (St.mk [AV.junk, AV.junk, AV.junk, AV.junk, AV.junk, AV.pl 5 0, AV.pl 6 0, AV.junk, AV.junk, AV.junk, AV.junk, AV.sl b33 [Kd.s, Kd.b, Kd.i IntKind.i64, Kd.s] r34 (Right.tok 11), AV.junk, AV.dv (DV.val (Value.int IntKind.i64 j36)), AV.junk, AV.junk, AV.junk, AV.junk, AV.junk, AV.junk, AV.junk, AV.junk, AV.junk, AV.junk, AV.junk, AV.junk, AV.junk, AV.junk, AV.junk, AV.junk, AV.junk, AV.junk, AV.junk, AV.junk, AV.junk, AV.junk, AV.junk, AV.junk, AV.junk, AV.junk, AV.junk, AV.junk, AV.junk, AV.junk, AV.junk, AV.junk, AV.junk, AV.junk, AV.junk, AV.junk, AV.junk, AV.junk, AV.junk, AV.junk, AV.junk, AV.junk, AV.junk, AV.junk, AV.junk, AV.junk, AV.junk, AV.junk, AV.junk, AV.junk, AV.junk, AV.junk, AV.junk, AV.junk, AV.junk, AV.junk, AV.junk, AV.junk, AV.junk, AV.junk, AV.junk, AV.junk, AV.junk, AV.junk, AV.junk, AV.junk, AV.junk, AV.junk, AV.junk, AV.junk, AV.junk, AV.junk, AV.junk, AV.junk, AV.junk] [(5, [AV.dv (DV.val (Value.string s4)), AV.dv (DV.val (Value.bool b5)), AV.dv (DV.val (Value.int IntKind.i64 j6)), AV.dv (DV.val (Value.string s7)), AV.dv (DV.val (Value.string s8)), AV.sl b9 [Kd.s, Kd.b, Kd.i IntKind.i64, Kd.s] r10 Right.no, AV.dv (DV.val (Value.string s11)), AV.dv (DV.val (Value.bool b12)), AV.dv (DV.val (Value.int IntKind.i64 j13)), AV.dv (DV.val (Value.string s14))]), (6, [AV.dv (DV.val (Value.string s15)), AV.dv (DV.val (Value.string s16)), AV.dv (DV.val (Value.string s17)), AV.sl b18 [Kd.b, Kd.i IntKind.i64, Kd.s] r19 Right.no])])
theorem ref11_Literal_s16 (n : Nat) (s0 : ByteArray) (b1 : Bool) (j2 : Int) (s3 : ByteArray) (s4 : ByteArray) (b5 : Bool) (j6 : Int) (s7 : ByteArray) (s8 : ByteArray) (b9 : Bool) (r10 : Rows) (s11 : ByteArray) (b12 : Bool) (j13 : Int) (s14 : ByteArray) (s15 : ByteArray) (s16 : ByteArray) (s17 : ByteArray) (b18 : Bool) (r19 : Rows) (b20 : Bool) (r21 : Rows) (i0 : Nat) (b33 : Bool) (r34 : List (List DV)) (j36 : Int) : ref11_Literal_l16 n s0 b1 j2 s3 s4 b5 j6 s7 s8 b9 r10 s11 b12 j13 s14 s15 s16 s17 b18 r19 b20 r21 (i0 + 1) b33 r34 j36 =
  bif decide (j36 < (↑(List.length r10) : Int)) then
    if 0 ≤ j36 then
      if j36 < (↑(List.length r10) : Int) then
        if 0 ≤ j36 then
          if j36 < (↑(List.length r19) : Int) then
            obind (ref11_Unify_v n (Row.S (List.getD r10 (Int.toNat j36) []) 0) (Row.B (List.getD r10 (Int.toNat j36) []) 1) (Row.I (List.getD r10 (Int.toNat j36) []) 2) (Row.S (List.getD r10 (Int.toNat j36) []) 3) (Row.B (List.getD r19 (Int.toNat j36) []) 0) (Row.I (List.getD r19 (Int.toNat j36) []) 1) (Row.S (List.getD r19 (Int.toNat j36) []) 2) b33 r34) fun y37 =>
            bif !y37.fst.snd.fst then
              some (((true, []), (false, ())), ())
            else ref11_Literal_l16 n s0 b1 j2 s3 s4 b5 j6 s7 s8 b9 r10 s11 b12 j13 s14 s15 s16 s17 b18 r19 b20 r21 i0 y37.fst.fst.fst y37.fst.fst.snd (IntKind.wrap IntKind.i64 (j36 + 1))
          else none
        else none
      else none
    else none
  else some (((b33, r34), (true, ())), ()) := by kernel_rfl
theorem ref11_Literal_e (n : Nat) (s0 : ByteArray) (b1 : Bool) (j2 : Int) (s3 : ByteArray) (s4 : ByteArray) (b5 : Bool) (j6 : Int) (s7 : ByteArray) (s8 : ByteArray) (b9 : Bool) (r10 : Rows) (s11 : ByteArray) (b12 : Bool) (j13 : Int) (s14 : ByteArray) (s15 : ByteArray) (s16 : ByteArray) (s17 : ByteArray) (b18 : Bool) (r19 : Rows) (b20 : Bool) (r21 : Rows) : ref11_Literal_v n s0 b1 j2 s3 s4 b5 j6 s7 s8 b9 r10 s11 b12 j13 s14 s15 s16 s17 b18 r19 b20 r21 =
  bif !s8 == s17 then
    some (((true, []), (false, ())), ())
  else bif (↑(List.length r10) : Int) != (↑(List.length r19) : Int) then
    some (((true, []), (false, ())), ())
  else obind (ref11_none_v n s11 b12 j13 s14) fun y22 =>
  bif y22.fst then
    obind (ref11_Name_v n s15) fun y23 =>
    obind (ref11_Unify_v n s0 b1 j2 s3 y23.fst.fst y23.fst.snd.fst y23.fst.snd.snd.fst b20 r21) fun y24 =>
    bif !y24.fst.snd.fst then
      some (((true, []), (false, ())), ())
    else obind (ref11_none_v n s4 b5 j6 s7) fun y25 =>
    bif y25.fst then
      bif !s16 == s15 then
        some (((true, []), (false, ())), ())
      else ref11_Literal_l16 n s0 b1 j2 s3 s4 b5 j6 s7 s8 b9 r10 s11 b12 j13 s14 s15 s16 s17 b18 r19 b20 r21 n y24.fst.fst.fst y24.fst.fst.snd 0
    else obind (ref11_Name_v n s16) fun y26 =>
    obind (ref11_Unify_v n s4 b5 j6 s7 y26.fst.fst y26.fst.snd.fst y26.fst.snd.snd.fst y24.fst.fst.fst y24.fst.fst.snd) fun y27 =>
    bif !y27.fst.snd.fst then
      some (((true, []), (false, ())), ())
    else ref11_Literal_l16 n s0 b1 j2 s3 s4 b5 j6 s7 s8 b9 r10 s11 b12 j13 s14 s15 s16 s17 b18 r19 b20 r21 n y27.fst.fst.fst y27.fst.fst.snd 0
  else obind (ref11_Name_v n s15) fun y28 =>
  obind (ref11_Unify_v n s11 b12 j13 s14 y28.fst.fst y28.fst.snd.fst y28.fst.snd.snd.fst b20 r21) fun y29 =>
  bif !y29.fst.snd.fst then
    some (((true, []), (false, ())), ())
  else obind (ref11_none_v n s4 b5 j6 s7) fun y30 =>
  bif y30.fst then
    bif !s16 == s15 then
      some (((true, []), (false, ())), ())
    else ref11_Literal_l16 n s0 b1 j2 s3 s4 b5 j6 s7 s8 b9 r10 s11 b12 j13 s14 s15 s16 s17 b18 r19 b20 r21 n y29.fst.fst.fst y29.fst.fst.snd 0
  else obind (ref11_Name_v n s16) fun y31 =>
  obind (ref11_Unify_v n s4 b5 j6 s7 y31.fst.fst y31.fst.snd.fst y31.fst.snd.snd.fst y29.fst.fst.fst y29.fst.fst.snd) fun y32 =>
  bif !y32.fst.snd.fst then
    some (((true, []), (false, ())), ())
  else ref11_Literal_l16 n s0 b1 j2 s3 s4 b5 j6 s7 s8 b9 r10 s11 b12 j13 s14 s15 s16 s17 b18 r19 b20 r21 n y32.fst.fst.fst y32.fst.fst.snd 0 := by kernel_rfl
theorem ref11_Literal_c (n : Nat) (s0 : ByteArray) (b1 : Bool) (j2 : Int) (s3 : ByteArray) (s4 : ByteArray) (b5 : Bool) (j6 : Int) (s7 : ByteArray) (s8 : ByteArray) (b9 : Bool) (r10 : Rows) (s11 : ByteArray) (b12 : Bool) (j13 : Int) (s14 : ByteArray) (s15 : ByteArray) (s16 : ByteArray) (s17 : ByteArray) (b18 : Bool) (r19 : Rows) (b20 : Bool) (r21 : Rows) (y : ((Bool × Rows) × Bool × Unit) × Unit) (h : ref11_Literal_v n s0 b1 j2 s3 s4 b5 j6 s7 s8 b9 r10 s11 b12 j13 s14 s15 s16 s17 b18 r19 b20 r21 = some y) : Contract Try.prog 17 [AV.agg [AV.dv (DV.val (Value.string s0)), AV.dv (DV.val (Value.bool b1)), AV.dv (DV.val (Value.int IntKind.i64 j2)), AV.dv (DV.val (Value.string s3))], AV.agg [AV.dv (DV.val (Value.string s4)), AV.dv (DV.val (Value.bool b5)), AV.dv (DV.val (Value.int IntKind.i64 j6)), AV.dv (DV.val (Value.string s7)), AV.dv (DV.val (Value.string s8)), AV.sl b9 [Kd.s, Kd.b, Kd.i IntKind.i64, Kd.s] r10 Right.no, AV.dv (DV.val (Value.string s11)), AV.dv (DV.val (Value.bool b12)), AV.dv (DV.val (Value.int IntKind.i64 j13)), AV.dv (DV.val (Value.string s14))], AV.agg [AV.dv (DV.val (Value.string s15)), AV.dv (DV.val (Value.string s16)), AV.dv (DV.val (Value.string s17)), AV.sl b18 [Kd.b, Kd.i IntKind.i64, Kd.s] r19 Right.no], AV.sl b20 [Kd.s, Kd.b, Kd.i IntKind.i64, Kd.s] r21 Right.no] [] (OSh.enc (OSh.plain (.tup [.slt [Kd.s, Kd.b, Kd.i IntKind.i64, Kd.s] 0, .b]) []) y) :=
  auto_okM tm_std (with_ok mixed (by kernel_rfl) (ref11_Literal_σok n) n 0 [1000053]) (with_pick mixed (by kernel_rfl) (ref11_Literal_σok n) n 0 [1000053]) mixed Try.func17 (by decide) (o := (OSh.plain (.tup [.slt [Kd.s, Kd.b, Kd.i IntKind.i64, Kd.s] 0, .b]) [])) h
/-! ref11_name: function 41 -/
def ref11_name_lv : Live := []
noncomputable def ref11_name_σ (n : Nat) : Spec := (inst 11 [.agg [.s, .b, .i IntKind.i64, .s], .sl [Kd.s, Kd.b, Kd.i IntKind.i64, Kd.s]] [] (OSh.plain (.tup [.agg [.b, .i IntKind.i64, .s], .b]) []) (fun x e => ref11_Value_v n x.1.1 x.1.2.1 x.1.2.2.1 x.1.2.2.2.1 x.2.1.1 x.2.1.2) (inst 36 [.s] [] (OSh.plain (.agg [.b, .i IntKind.i64, .s]) []) (fun x e => ref11_Name_v n x.1) Spec.none))
theorem ref11_name_σok (n : Nat) : SpecOk Try.prog (ref11_name_σ n) := (inst_ok (fun x e y h => ref11_Value_c n x.1.1 x.1.2.1 x.1.2.2.1 x.1.2.2.2.1 x.2.1.1 x.2.1.2 y h) (inst_ok (fun x e y h => ref11_Name_c n x.1 y h) (SpecOk.none _)))
noncomputable def ref11_name_Φ (n : Nat) : Orc := with_ Try.prog (ref11_name_σ n) [] n 0 [1000053]
noncomputable def ref11_name_v (n : Nat) (s0 : ByteArray) (b1 : Bool) (j2 : Int) (s3 : ByteArray) (b4 : Bool) (r5 : Rows) : Option ((ByteArray × Bool × Unit) × Unit) :=
  DM.denFn tm (ref11_name_Φ n) ref11_name_lv n Try.f41 false [AV.agg [AV.dv (DV.val (Value.string s0)), AV.dv (DV.val (Value.bool b1)), AV.dv (DV.val (Value.int IntKind.i64 j2)), AV.dv (DV.val (Value.string s3))], AV.sl b4 [Kd.s, Kd.b, Kd.i IntKind.i64, Kd.s] r5 Right.no] [] (OSh.chk (OSh.plain (.tup [.s, .b]) []))
theorem ref11_name_e (n : Nat) (s0 : ByteArray) (b1 : Bool) (j2 : Int) (s3 : ByteArray) (b4 : Bool) (r5 : Rows) : ref11_name_v n s0 b1 j2 s3 b4 r5 =
  obind (ref11_Value_v n s0 b1 j2 s3 b4 r5) fun y6 =>
  bif !y6.fst.snd.fst then
    some ((ByteArray.mk #[], (false, ())), ())
  else obind (ref11_Name_v n y6.fst.fst.snd.snd.fst) fun y7 =>
  bif !(y6.fst.fst.fst == y7.fst.fst && (y6.fst.fst.snd.fst == y7.fst.snd.fst && (y6.fst.fst.snd.snd.fst == y7.fst.snd.snd.fst && true))) then
    some ((ByteArray.mk #[], (false, ())), ())
  else some ((y6.fst.fst.snd.snd.fst, (true, ())), ()) := by kernel_rfl
theorem ref11_name_c (n : Nat) (s0 : ByteArray) (b1 : Bool) (j2 : Int) (s3 : ByteArray) (b4 : Bool) (r5 : Rows) (y : (ByteArray × Bool × Unit) × Unit) (h : ref11_name_v n s0 b1 j2 s3 b4 r5 = some y) : Contract Try.prog 41 [AV.agg [AV.dv (DV.val (Value.string s0)), AV.dv (DV.val (Value.bool b1)), AV.dv (DV.val (Value.int IntKind.i64 j2)), AV.dv (DV.val (Value.string s3))], AV.sl b4 [Kd.s, Kd.b, Kd.i IntKind.i64, Kd.s] r5 Right.no] [] (OSh.enc (OSh.plain (.tup [.s, .b]) []) y) :=
  auto_okM tm_std (with_ok mixed (by kernel_rfl) (ref11_name_σok n) n 0 [1000053]) (with_pick mixed (by kernel_rfl) (ref11_name_σok n) n 0 [1000053]) mixed Try.func41 (by decide) (o := (OSh.plain (.tup [.s, .b]) [])) h
/-! ref11_values: function 42 -/
def ref11_values_lv : Live := [(3, [0, 1, 6, 7], [1000, 1001, 1002, 1003])]
noncomputable def ref11_values_σ (n : Nat) : Spec := (inst 11 [.agg [.s, .b, .i IntKind.i64, .s], .sl [Kd.s, Kd.b, Kd.i IntKind.i64, Kd.s]] [] (OSh.plain (.tup [.agg [.b, .i IntKind.i64, .s], .b]) []) (fun x e => ref11_Value_v n x.1.1 x.1.2.1 x.1.2.2.1 x.1.2.2.2.1 x.2.1.1 x.2.1.2) Spec.none)
theorem ref11_values_σok (n : Nat) : SpecOk Try.prog (ref11_values_σ n) := (inst_ok (fun x e y h => ref11_Value_c n x.1.1 x.1.2.1 x.1.2.2.1 x.1.2.2.2.1 x.2.1.1 x.2.1.2 y h) (SpecOk.none _))
noncomputable def ref11_values_Φ (n : Nat) : Orc := with_ Try.prog (ref11_values_σ n) [] n 0 [1000053]
noncomputable def ref11_values_v (n : Nat) (b0 : Bool) (r1 : Rows) (b2 : Bool) (r3 : Rows) : Option (((Bool × Rows) × Bool × Unit) × Unit) :=
  DM.denFn tm (ref11_values_Φ n) ref11_values_lv n Try.f42 true [AV.sl b0 [Kd.s, Kd.b, Kd.i IntKind.i64, Kd.s] r1 Right.no, AV.sl b2 [Kd.s, Kd.b, Kd.i IntKind.i64, Kd.s] r3 Right.no] [] (OSh.chk (OSh.plain (.tup [.slt [Kd.b, Kd.i IntKind.i64, Kd.s] 0, .b]) []))
noncomputable def ref11_values_l3 (n : Nat) (b0 : Bool) (r1 : Rows) (b2 : Bool) (r3 : Rows) (i0 : Nat) (b5 : Bool) (r6 : List (List DV)) (j7 : Int) : Option (((Bool × Rows) × Bool × Unit) × Unit) :=
  DM.loopFn tm (ref11_values_Φ n) ref11_values_lv n Try.f42 true [] (OSh.chk (OSh.plain (.tup [.slt [Kd.b, Kd.i IntKind.i64, Kd.s] 0, .b]) [])) 3 [] i0 (St.mk [AV.sl b0 [Kd.s, Kd.b, Kd.i IntKind.i64, Kd.s] r1 Right.no, AV.sl b2 [Kd.s, Kd.b, Kd.i IntKind.i64, Kd.s] r3 Right.no, AV.junk, AV.junk, AV.junk, AV.junk, AV.sl b5 [Kd.b, Kd.i IntKind.i64, Kd.s] r6 (Right.tok 6), AV.dv (DV.val (Value.int IntKind.i64 j7)), AV.junk, AV.junk, AV.junk, AV.junk, AV.junk, AV.junk, AV.junk, AV.junk, AV.junk, AV.junk, AV.junk, AV.junk, AV.junk, AV.junk, AV.junk, AV.junk, AV.junk, AV.junk, AV.junk, AV.junk, AV.junk, AV.junk, AV.junk, AV.junk] [])
theorem ref11_values_s3 (n : Nat) (b0 : Bool) (r1 : Rows) (b2 : Bool) (r3 : Rows) (i0 : Nat) (b5 : Bool) (r6 : List (List DV)) (j7 : Int) : ref11_values_l3 n b0 r1 b2 r3 (i0 + 1) b5 r6 j7 =
  bif decide (j7 < (↑(List.length r1) : Int)) then
    if 0 ≤ j7 then
      if j7 < (↑(List.length r1) : Int) then
        obind (ref11_Value_v n (Row.S (List.getD r1 (Int.toNat j7) []) 0) (Row.B (List.getD r1 (Int.toNat j7) []) 1) (Row.I (List.getD r1 (Int.toNat j7) []) 2) (Row.S (List.getD r1 (Int.toNat j7) []) 3) b2 r3) fun y8 =>
        bif !y8.fst.snd.fst then
          some (((true, []), (false, ())), ())
        else if (List.length r6 + List.length [[DV.val (Value.bool y8.fst.fst.fst), DV.val (Value.int IntKind.i64 y8.fst.fst.snd.fst), DV.val (Value.string y8.fst.fst.snd.snd.fst)]]) * 32 ≤ 140737488355328 then
          ref11_values_l3 n b0 r1 b2 r3 i0 (b5 && List.isEmpty [[DV.val (Value.bool y8.fst.fst.fst), DV.val (Value.int IntKind.i64 y8.fst.fst.snd.fst), DV.val (Value.string y8.fst.fst.snd.snd.fst)]]) (appX r6 [[DV.val (Value.bool y8.fst.fst.fst), DV.val (Value.int IntKind.i64 y8.fst.fst.snd.fst), DV.val (Value.string y8.fst.fst.snd.snd.fst)]]) (IntKind.wrap IntKind.i64 (j7 + 1))
        else none
      else none
    else none
  else some (((b5, r6), (true, ())), ()) := by kernel_rfl
theorem ref11_values_e (n : Nat) (b0 : Bool) (r1 : Rows) (b2 : Bool) (r3 : Rows) : ref11_values_v n b0 r1 b2 r3 =
  ref11_values_l3 n b0 r1 b2 r3 n true [] 0 := by kernel_rfl
theorem ref11_values_c (n : Nat) (b0 : Bool) (r1 : Rows) (b2 : Bool) (r3 : Rows) (y : ((Bool × Rows) × Bool × Unit) × Unit) (h : ref11_values_v n b0 r1 b2 r3 = some y) : Contract Try.prog 42 [AV.sl b0 [Kd.s, Kd.b, Kd.i IntKind.i64, Kd.s] r1 Right.no, AV.sl b2 [Kd.s, Kd.b, Kd.i IntKind.i64, Kd.s] r3 Right.no] [] (OSh.enc (OSh.plain (.tup [.slt [Kd.b, Kd.i IntKind.i64, Kd.s] 0, .b]) []) y) :=
  auto_okM tm_std (with_ok mixed (by kernel_rfl) (ref11_values_σok n) n 0 [1000053]) (with_pick mixed (by kernel_rfl) (ref11_values_σok n) n 0 [1000053]) mixed Try.func42 (by decide) (o := (OSh.plain (.tup [.slt [Kd.b, Kd.i IntKind.i64, Kd.s] 0, .b]) [])) h
/-! ref11_Head: function 20 -/
def ref11_Head_lv : Live := []
noncomputable def ref11_Head_σ (n : Nat) : Spec := (inst 30 [.agg [.s, .b, .i IntKind.i64, .s]] [] (OSh.plain (.b) []) (fun x e => ref11_none_v n x.1.1 x.1.2.1 x.1.2.2.1 x.1.2.2.2.1) (inst 41 [.agg [.s, .b, .i IntKind.i64, .s], .sl [Kd.s, Kd.b, Kd.i IntKind.i64, Kd.s]] [] (OSh.plain (.tup [.s, .b]) []) (fun x e => ref11_name_v n x.1.1 x.1.2.1 x.1.2.2.1 x.1.2.2.2.1 x.2.1.1 x.2.1.2) (inst 42 [.sl [Kd.s, Kd.b, Kd.i IntKind.i64, Kd.s], .sl [Kd.s, Kd.b, Kd.i IntKind.i64, Kd.s]] [] (OSh.plain (.tup [.slt [Kd.b, Kd.i IntKind.i64, Kd.s] 0, .b]) []) (fun x e => ref11_values_v n x.1.1 x.1.2 x.2.1.1 x.2.1.2) Spec.none)))
theorem ref11_Head_σok (n : Nat) : SpecOk Try.prog (ref11_Head_σ n) := (inst_ok (fun x e y h => ref11_none_c n x.1.1 x.1.2.1 x.1.2.2.1 x.1.2.2.2.1 y h) (inst_ok (fun x e y h => ref11_name_c n x.1.1 x.1.2.1 x.1.2.2.1 x.1.2.2.2.1 x.2.1.1 x.2.1.2 y h) (inst_ok (fun x e y h => ref11_values_c n x.1.1 x.1.2 x.2.1.1 x.2.1.2 y h) (SpecOk.none _))))
noncomputable def ref11_Head_Φ (n : Nat) : Orc := with_ Try.prog (ref11_Head_σ n) [] n 0 [1000053]
noncomputable def ref11_Head_v (n : Nat) (s0 : ByteArray) (b1 : Bool) (j2 : Int) (s3 : ByteArray) (s4 : ByteArray) (b5 : Bool) (r6 : Rows) (s7 : ByteArray) (b8 : Bool) (j9 : Int) (s10 : ByteArray) (b11 : Bool) (r12 : Rows) (b13 : Bool) (r14 : Rows) : Option (((ByteArray × ByteArray × ByteArray × (Bool × Rows) × Unit) × Bool × Unit) × Unit) :=
  DM.denFn tm (ref11_Head_Φ n) ref11_Head_lv n Try.f20 false [AV.agg [AV.dv (DV.val (Value.string s0)), AV.dv (DV.val (Value.bool b1)), AV.dv (DV.val (Value.int IntKind.i64 j2)), AV.dv (DV.val (Value.string s3)), AV.dv (DV.val (Value.string s4)), AV.sl b5 [Kd.s, Kd.b, Kd.i IntKind.i64, Kd.s] r6 Right.no, AV.dv (DV.val (Value.string s7)), AV.dv (DV.val (Value.bool b8)), AV.dv (DV.val (Value.int IntKind.i64 j9)), AV.dv (DV.val (Value.string s10)), AV.sl b11 [Kd.s, Kd.b, Kd.i IntKind.i64, Kd.s, Kd.s, Kd.sl [Kd.s, Kd.b, Kd.i IntKind.i64, Kd.s], Kd.s, Kd.b, Kd.i IntKind.i64, Kd.s] r12 Right.no], AV.sl b13 [Kd.s, Kd.b, Kd.i IntKind.i64, Kd.s] r14 Right.no] [] (OSh.chk (OSh.plain (.tup [.agg [.s, .s, .s, .sl [Kd.b, Kd.i IntKind.i64, Kd.s]], .b]) []))
theorem ref11_Head_e (n : Nat) (s0 : ByteArray) (b1 : Bool) (j2 : Int) (s3 : ByteArray) (s4 : ByteArray) (b5 : Bool) (r6 : Rows) (s7 : ByteArray) (b8 : Bool) (j9 : Int) (s10 : ByteArray) (b11 : Bool) (r12 : Rows) (b13 : Bool) (r14 : Rows) : ref11_Head_v n s0 b1 j2 s3 s4 b5 r6 s7 b8 j9 s10 b11 r12 b13 r14 =
  obind (ref11_none_v n s7 b8 j9 s10) fun y15 =>
  bif y15.fst then
    obind (ref11_name_v n s0 b1 j2 s3 b13 r14) fun y16 =>
    obind (ref11_name_v n s0 b1 j2 s3 b13 r14) fun y17 =>
    obind (ref11_values_v n b5 r6 b13 r14) fun y18 =>
    bif !y16.fst.snd.fst then
      some (((ByteArray.mk #[], (ByteArray.mk #[], (ByteArray.mk #[], ((true, []), ())))), (false, ())), ())
    else bif !y17.fst.snd.fst then
      some (((ByteArray.mk #[], (ByteArray.mk #[], (ByteArray.mk #[], ((true, []), ())))), (false, ())), ())
    else bif !y18.fst.snd.fst then
      some (((ByteArray.mk #[], (ByteArray.mk #[], (ByteArray.mk #[], ((true, []), ())))), (false, ())), ())
    else some (((y17.fst.fst, (y16.fst.fst, (s4, ((y18.fst.fst.fst, y18.fst.fst.snd), ())))), (true, ())), ())
  else obind (ref11_name_v n s0 b1 j2 s3 b13 r14) fun y19 =>
  obind (ref11_name_v n s7 b8 j9 s10 b13 r14) fun y20 =>
  obind (ref11_values_v n b5 r6 b13 r14) fun y21 =>
  bif !y19.fst.snd.fst then
    some (((ByteArray.mk #[], (ByteArray.mk #[], (ByteArray.mk #[], ((true, []), ())))), (false, ())), ())
  else bif !y20.fst.snd.fst then
    some (((ByteArray.mk #[], (ByteArray.mk #[], (ByteArray.mk #[], ((true, []), ())))), (false, ())), ())
  else bif !y21.fst.snd.fst then
    some (((ByteArray.mk #[], (ByteArray.mk #[], (ByteArray.mk #[], ((true, []), ())))), (false, ())), ())
  else some (((y20.fst.fst, (y19.fst.fst, (s4, ((y21.fst.fst.fst, y21.fst.fst.snd), ())))), (true, ())), ()) := by kernel_rfl
theorem ref11_Head_c (n : Nat) (s0 : ByteArray) (b1 : Bool) (j2 : Int) (s3 : ByteArray) (s4 : ByteArray) (b5 : Bool) (r6 : Rows) (s7 : ByteArray) (b8 : Bool) (j9 : Int) (s10 : ByteArray) (b11 : Bool) (r12 : Rows) (b13 : Bool) (r14 : Rows) (y : ((ByteArray × ByteArray × ByteArray × (Bool × Rows) × Unit) × Bool × Unit) × Unit) (h : ref11_Head_v n s0 b1 j2 s3 s4 b5 r6 s7 b8 j9 s10 b11 r12 b13 r14 = some y) : Contract Try.prog 20 [AV.agg [AV.dv (DV.val (Value.string s0)), AV.dv (DV.val (Value.bool b1)), AV.dv (DV.val (Value.int IntKind.i64 j2)), AV.dv (DV.val (Value.string s3)), AV.dv (DV.val (Value.string s4)), AV.sl b5 [Kd.s, Kd.b, Kd.i IntKind.i64, Kd.s] r6 Right.no, AV.dv (DV.val (Value.string s7)), AV.dv (DV.val (Value.bool b8)), AV.dv (DV.val (Value.int IntKind.i64 j9)), AV.dv (DV.val (Value.string s10)), AV.sl b11 [Kd.s, Kd.b, Kd.i IntKind.i64, Kd.s, Kd.s, Kd.sl [Kd.s, Kd.b, Kd.i IntKind.i64, Kd.s], Kd.s, Kd.b, Kd.i IntKind.i64, Kd.s] r12 Right.no], AV.sl b13 [Kd.s, Kd.b, Kd.i IntKind.i64, Kd.s] r14 Right.no] [] (OSh.enc (OSh.plain (.tup [.agg [.s, .s, .s, .sl [Kd.b, Kd.i IntKind.i64, Kd.s]], .b]) []) y) :=
  auto_okM tm_std (with_ok mixed (by kernel_rfl) (ref11_Head_σok n) n 0 [1000053]) (with_pick mixed (by kernel_rfl) (ref11_Head_σok n) n 0 [1000053]) mixed Try.func20 (by decide) (o := (OSh.plain (.tup [.agg [.s, .s, .s, .sl [Kd.b, Kd.i IntKind.i64, Kd.s]], .b]) [])) h
/-! ref04_texts: function 37 -/
def ref04_texts_lv : Live := []
noncomputable def ref04_texts_σ (n : Nat) : Spec := Spec.none
theorem ref04_texts_σok (n : Nat) : SpecOk Try.prog (ref04_texts_σ n) := (SpecOk.none _)
noncomputable def ref04_texts_Φ (n : Nat) : Orc := with_ Try.prog (ref04_texts_σ n) [] n 0 [1000053]
noncomputable def ref04_texts_v (n : Nat) (s0 : ByteArray) (s1 : ByteArray) : Option (Int × Unit) :=
  DM.denFn tm (ref04_texts_Φ n) ref04_texts_lv n Try.f37 false [AV.dv (DV.val (Value.string s0)), AV.dv (DV.val (Value.string s1))] [] (OSh.chk (OSh.plain (.i IntKind.i64) []))
theorem ref04_texts_e (n : Nat) (s0 : ByteArray) (s1 : ByteArray) : ref04_texts_v n s0 s1 =
  bif Op.bytesLess (ByteArray.toList s0) (ByteArray.toList s1) then
    some (-1, ())
  else bif !(Op.bytesLess (ByteArray.toList s0) (ByteArray.toList s1) || s0 == s1) then
    some (1, ())
  else some (0, ()) := by kernel_rfl
theorem ref04_texts_c (n : Nat) (s0 : ByteArray) (s1 : ByteArray) (y : Int × Unit) (h : ref04_texts_v n s0 s1 = some y) : Contract Try.prog 37 [AV.dv (DV.val (Value.string s0)), AV.dv (DV.val (Value.string s1))] [] (OSh.enc (OSh.plain (.i IntKind.i64) []) y) :=
  auto_okM tm_std (with_ok mixed (by kernel_rfl) (ref04_texts_σok n) n 0 [1000053]) (with_pick mixed (by kernel_rfl) (ref04_texts_σok n) n 0 [1000053]) mixed Try.func37 (by decide) (o := (OSh.plain (.i IntKind.i64) [])) h
/-! ref04_Compare: function 38 -/
def ref04_Compare_lv : Live := []
noncomputable def ref04_Compare_σ (n : Nat) : Spec := (inst 37 [.s, .s] [] (OSh.plain (.i IntKind.i64) []) (fun x e => ref04_texts_v n x.1 x.2.1) Spec.none)
theorem ref04_Compare_σok (n : Nat) : SpecOk Try.prog (ref04_Compare_σ n) := (inst_ok (fun x e y h => ref04_texts_c n x.1 x.2.1 y h) (SpecOk.none _))
noncomputable def ref04_Compare_Φ (n : Nat) : Orc := with_ Try.prog (ref04_Compare_σ n) [] n 0 [1000053]
noncomputable def ref04_Compare_v (n : Nat) (b0 : Bool) (j1 : Int) (s2 : ByteArray) (b3 : Bool) (j4 : Int) (s5 : ByteArray) : Option (Int × Unit) :=
  DM.denFn tm (ref04_Compare_Φ n) ref04_Compare_lv n Try.f38 false [AV.agg [AV.dv (DV.val (Value.bool b0)), AV.dv (DV.val (Value.int IntKind.i64 j1)), AV.dv (DV.val (Value.string s2))], AV.agg [AV.dv (DV.val (Value.bool b3)), AV.dv (DV.val (Value.int IntKind.i64 j4)), AV.dv (DV.val (Value.string s5))]] [] (OSh.chk (OSh.plain (.i IntKind.i64) []))
theorem ref04_Compare_e (n : Nat) (b0 : Bool) (j1 : Int) (s2 : ByteArray) (b3 : Bool) (j4 : Int) (s5 : ByteArray) : ref04_Compare_v n b0 j1 s2 b3 j4 s5 =
  bif b0 then
    bif !b3 then
      some (-1, ())
    else bif b3 then
      bif !b0 then
        some (1, ())
      else bif decide (j1 < j4) then
        some (-1, ())
      else bif decide (j1 > j4) then
        some (1, ())
      else obind (ref04_texts_v n s2 s5) fun y6 =>
      some (y6.fst, ())
    else bif decide (j1 < j4) then
      some (-1, ())
    else bif decide (j1 > j4) then
      some (1, ())
    else obind (ref04_texts_v n s2 s5) fun y7 =>
    some (y7.fst, ())
  else bif b3 then
    bif !b0 then
      some (1, ())
    else bif decide (j1 < j4) then
      some (-1, ())
    else bif decide (j1 > j4) then
      some (1, ())
    else obind (ref04_texts_v n s2 s5) fun y8 =>
    some (y8.fst, ())
  else bif decide (j1 < j4) then
    some (-1, ())
  else bif decide (j1 > j4) then
    some (1, ())
  else obind (ref04_texts_v n s2 s5) fun y9 =>
  some (y9.fst, ()) := by kernel_rfl
theorem ref04_Compare_c (n : Nat) (b0 : Bool) (j1 : Int) (s2 : ByteArray) (b3 : Bool) (j4 : Int) (s5 : ByteArray) (y : Int × Unit) (h : ref04_Compare_v n b0 j1 s2 b3 j4 s5 = some y) : Contract Try.prog 38 [AV.agg [AV.dv (DV.val (Value.bool b0)), AV.dv (DV.val (Value.int IntKind.i64 j1)), AV.dv (DV.val (Value.string s2))], AV.agg [AV.dv (DV.val (Value.bool b3)), AV.dv (DV.val (Value.int IntKind.i64 j4)), AV.dv (DV.val (Value.string s5))]] [] (OSh.enc (OSh.plain (.i IntKind.i64) []) y) :=
  auto_okM tm_std (with_ok mixed (by kernel_rfl) (ref04_Compare_σok n) n 0 [1000053]) (with_pick mixed (by kernel_rfl) (ref04_Compare_σok n) n 0 [1000053]) mixed Try.func38 (by decide) (o := (OSh.plain (.i IntKind.i64) [])) h
/-! ref04_Order: function 18 -/
def ref04_Order_lv : Live := [(8, [2, 3, 5], [2, 3, 1000, 1001, 1002, 1003])]
noncomputable def ref04_Order_σ (n : Nat) : Spec := (inst 37 [.s, .s] [] (OSh.plain (.i IntKind.i64) []) (fun x e => ref04_texts_v n x.1 x.2.1) (inst 38 [.agg [.b, .i IntKind.i64, .s], .agg [.b, .i IntKind.i64, .s]] [] (OSh.plain (.i IntKind.i64) []) (fun x e => ref04_Compare_v n x.1.1 x.1.2.1 x.1.2.2.1 x.2.1.1 x.2.1.2.1 x.2.1.2.2.1) Spec.none))
theorem ref04_Order_σok (n : Nat) : SpecOk Try.prog (ref04_Order_σ n) := (inst_ok (fun x e y h => ref04_texts_c n x.1 x.2.1 y h) (inst_ok (fun x e y h => ref04_Compare_c n x.1.1 x.1.2.1 x.1.2.2.1 x.2.1.1 x.2.1.2.1 x.2.1.2.2.1 y h) (SpecOk.none _)))
noncomputable def ref04_Order_Φ (n : Nat) : Orc := with_ Try.prog (ref04_Order_σ n) [] n 0 [1000053]
noncomputable def ref04_Order_v (n : Nat) (s0 : ByteArray) (s1 : ByteArray) (s2 : ByteArray) (b3 : Bool) (r4 : Rows) (s5 : ByteArray) (s6 : ByteArray) (s7 : ByteArray) (b8 : Bool) (r9 : Rows) : Option (Int × Unit) :=
  DM.denFn tm (ref04_Order_Φ n) ref04_Order_lv n Try.f18 false [AV.agg [AV.dv (DV.val (Value.string s0)), AV.dv (DV.val (Value.string s1)), AV.dv (DV.val (Value.string s2)), AV.sl b3 [Kd.b, Kd.i IntKind.i64, Kd.s] r4 Right.no], AV.agg [AV.dv (DV.val (Value.string s5)), AV.dv (DV.val (Value.string s6)), AV.dv (DV.val (Value.string s7)), AV.sl b8 [Kd.b, Kd.i IntKind.i64, Kd.s] r9 Right.no]] [] (OSh.chk (OSh.plain (.i IntKind.i64) []))
noncomputable def ref04_Order_l8 (n : Nat) (s0 : ByteArray) (s1 : ByteArray) (s2 : ByteArray) (b3 : Bool) (r4 : Rows) (s5 : ByteArray) (s6 : ByteArray) (s7 : ByteArray) (b8 : Bool) (r9 : Rows) (i0 : Nat) (j14 : Int) : Option (Int × Unit) :=
  DM.loopFn tm (ref04_Order_Φ n) ref04_Order_lv n Try.f18 false [] (OSh.chk (OSh.plain (.i IntKind.i64) [])) 8 [] i0 (St.mk [AV.junk, AV.junk, AV.pl 2 0, AV.pl 3 0, AV.junk, AV.dv (DV.val (Value.int IntKind.i64 j14)), AV.junk, AV.junk, AV.junk, AV.junk, AV.junk, AV.junk, AV.junk, AV.junk, AV.junk, AV.junk, AV.junk, AV.junk, AV.junk, AV.junk, AV.junk, AV.junk, AV.junk, AV.junk, AV.junk, AV.junk, AV.junk, AV.junk, AV.junk, AV.junk, AV.junk, AV.junk, AV.junk, AV.junk, AV.junk, AV.junk, AV.junk, AV.junk, AV.junk, AV.junk, AV.junk, AV.junk, AV.junk, AV.junk, AV.junk, AV.junk, AV.junk, AV.junk, AV.junk, AV.junk, AV.junk, AV.junk, AV.junk, AV.junk, AV.junk, AV.junk, AV.junk, AV.junk, AV.junk, AV.junk, AV.junk, AV.junk, AV.junk, AV.junk, AV.junk, AV.junk, AV.junk, AV.junk, AV.junk, AV.junk, AV.junk, AV.junk, AV.junk, AV.junk, AV.junk, AV.junk, AV.junk, AV.junk, AV.junk] [(2, [AV.dv (DV.val (Value.string s0)), AV.dv (DV.val (Value.string s1)), AV.dv (DV.val (Value.string s2)), AV.sl b3 [Kd.b, Kd.i IntKind.i64, Kd.s] r4 Right.no]), (3, [AV.dv (DV.val (Value.string s5)), AV.dv (DV.val (Value.string s6)), AV.dv (DV.val (Value.string s7)), AV.sl b8 [Kd.b, Kd.i IntKind.i64, Kd.s] r9 Right.no])])
theorem ref04_Order_s8 (n : Nat) (s0 : ByteArray) (s1 : ByteArray) (s2 : ByteArray) (b3 : Bool) (r4 : Rows) (s5 : ByteArray) (s6 : ByteArray) (s7 : ByteArray) (b8 : Bool) (r9 : Rows) (i0 : Nat) (j14 : Int) : ref04_Order_l8 n s0 s1 s2 b3 r4 s5 s6 s7 b8 r9 (i0 + 1) j14 =
  bif decide (j14 < (↑(List.length r4) : Int)) then
    bif decide (j14 < (↑(List.length r9) : Int)) then
      if 0 ≤ j14 then
        if j14 < (↑(List.length r4) : Int) then
          if 0 ≤ j14 then
            if j14 < (↑(List.length r9) : Int) then
              obind (ref04_Compare_v n (Row.B (List.getD r4 (Int.toNat j14) []) 0) (Row.I (List.getD r4 (Int.toNat j14) []) 1) (Row.S (List.getD r4 (Int.toNat j14) []) 2) (Row.B (List.getD r9 (Int.toNat j14) []) 0) (Row.I (List.getD r9 (Int.toNat j14) []) 1) (Row.S (List.getD r9 (Int.toNat j14) []) 2)) fun y15 =>
              bif y15.fst != 0 then
                some (y15.fst, ())
              else ref04_Order_l8 n s0 s1 s2 b3 r4 s5 s6 s7 b8 r9 i0 (IntKind.wrap IntKind.i64 (j14 + 1))
            else none
          else none
        else none
      else none
    else bif decide ((↑(List.length r4) : Int) < (↑(List.length r9) : Int)) then
      some (-1, ())
    else bif decide ((↑(List.length r4) : Int) > (↑(List.length r9) : Int)) then
      some (1, ())
    else some (0, ())
  else bif decide ((↑(List.length r4) : Int) < (↑(List.length r9) : Int)) then
    some (-1, ())
  else bif decide ((↑(List.length r4) : Int) > (↑(List.length r9) : Int)) then
    some (1, ())
  else some (0, ()) := by kernel_rfl
theorem ref04_Order_e (n : Nat) (s0 : ByteArray) (s1 : ByteArray) (s2 : ByteArray) (b3 : Bool) (r4 : Rows) (s5 : ByteArray) (s6 : ByteArray) (s7 : ByteArray) (b8 : Bool) (r9 : Rows) : ref04_Order_v n s0 s1 s2 b3 r4 s5 s6 s7 b8 r9 =
  bif !s0 == s5 then
    obind (ref04_texts_v n s0 s5) fun y10 =>
    some (y10.fst, ())
  else bif !s1 == s6 then
    obind (ref04_texts_v n s1 s6) fun y11 =>
    some (y11.fst, ())
  else bif !s2 == s7 then
    obind (ref04_texts_v n s2 s7) fun y12 =>
    some (y12.fst, ())
  else ref04_Order_l8 n s0 s1 s2 b3 r4 s5 s6 s7 b8 r9 n 0 := by kernel_rfl
theorem ref04_Order_c (n : Nat) (s0 : ByteArray) (s1 : ByteArray) (s2 : ByteArray) (b3 : Bool) (r4 : Rows) (s5 : ByteArray) (s6 : ByteArray) (s7 : ByteArray) (b8 : Bool) (r9 : Rows) (y : Int × Unit) (h : ref04_Order_v n s0 s1 s2 b3 r4 s5 s6 s7 b8 r9 = some y) : Contract Try.prog 18 [AV.agg [AV.dv (DV.val (Value.string s0)), AV.dv (DV.val (Value.string s1)), AV.dv (DV.val (Value.string s2)), AV.sl b3 [Kd.b, Kd.i IntKind.i64, Kd.s] r4 Right.no], AV.agg [AV.dv (DV.val (Value.string s5)), AV.dv (DV.val (Value.string s6)), AV.dv (DV.val (Value.string s7)), AV.sl b8 [Kd.b, Kd.i IntKind.i64, Kd.s] r9 Right.no]] [] (OSh.enc (OSh.plain (.i IntKind.i64) []) y) :=
  auto_okM tm_std (with_ok mixed (by kernel_rfl) (ref04_Order_σok n) n 0 [1000053]) (with_pick mixed (by kernel_rfl) (ref04_Order_σok n) n 0 [1000053]) mixed Try.func18 (by decide) (o := (OSh.plain (.i IntKind.i64) [])) h
/-! ref11_Follows: function 25 -/
def ref11_Follows_lv : Live := [(5, [2, 3, 5, 7], [2, 3, 1000, 1001, 1002, 1003])]
noncomputable def ref11_Follows_σ (n : Nat) : Spec := (inst 36 [.s] [] (OSh.plain (.agg [.b, .i IntKind.i64, .s]) []) (fun x e => ref11_Name_v n x.1) (inst 13 [.agg [.s, .b, .i IntKind.i64, .s], .agg [.b, .i IntKind.i64, .s], .sl [Kd.s, Kd.b, Kd.i IntKind.i64, Kd.s]] [] (OSh.plain (.tup [.slt [Kd.s, Kd.b, Kd.i IntKind.i64, Kd.s] 0, .b]) []) (fun x e => ref11_Unify_v n x.1.1 x.1.2.1 x.1.2.2.1 x.1.2.2.2.1 x.2.1.1 x.2.1.2.1 x.2.1.2.2.1 x.2.2.1.1 x.2.2.1.2) (inst 17 [.agg [.s, .b, .i IntKind.i64, .s], .agg [.s, .b, .i IntKind.i64, .s, .s, .sl [Kd.s, Kd.b, Kd.i IntKind.i64, Kd.s], .s, .b, .i IntKind.i64, .s], .agg [.s, .s, .s, .sl [Kd.b, Kd.i IntKind.i64, Kd.s]], .sl [Kd.s, Kd.b, Kd.i IntKind.i64, Kd.s]] [] (OSh.plain (.tup [.slt [Kd.s, Kd.b, Kd.i IntKind.i64, Kd.s] 0, .b]) []) (fun x e => ref11_Literal_v n x.1.1 x.1.2.1 x.1.2.2.1 x.1.2.2.2.1 x.2.1.1 x.2.1.2.1 x.2.1.2.2.1 x.2.1.2.2.2.1 x.2.1.2.2.2.2.1 x.2.1.2.2.2.2.2.1.1 x.2.1.2.2.2.2.2.1.2 x.2.1.2.2.2.2.2.2.1 x.2.1.2.2.2.2.2.2.2.1 x.2.1.2.2.2.2.2.2.2.2.1 x.2.1.2.2.2.2.2.2.2.2.2.1 x.2.2.1.1 x.2.2.1.2.1 x.2.2.1.2.2.1 x.2.2.1.2.2.2.1.1 x.2.2.1.2.2.2.1.2 x.2.2.2.1.1 x.2.2.2.1.2) (inst 20 [.agg [.s, .b, .i IntKind.i64, .s, .s, .sl [Kd.s, Kd.b, Kd.i IntKind.i64, Kd.s], .s, .b, .i IntKind.i64, .s, .sl [Kd.s, Kd.b, Kd.i IntKind.i64, Kd.s, Kd.s, Kd.sl [Kd.s, Kd.b, Kd.i IntKind.i64, Kd.s], Kd.s, Kd.b, Kd.i IntKind.i64, Kd.s]], .sl [Kd.s, Kd.b, Kd.i IntKind.i64, Kd.s]] [] (OSh.plain (.tup [.agg [.s, .s, .s, .sl [Kd.b, Kd.i IntKind.i64, Kd.s]], .b]) []) (fun x e => ref11_Head_v n x.1.1 x.1.2.1 x.1.2.2.1 x.1.2.2.2.1 x.1.2.2.2.2.1 x.1.2.2.2.2.2.1.1 x.1.2.2.2.2.2.1.2 x.1.2.2.2.2.2.2.1 x.1.2.2.2.2.2.2.2.1 x.1.2.2.2.2.2.2.2.2.1 x.1.2.2.2.2.2.2.2.2.2.1 x.1.2.2.2.2.2.2.2.2.2.2.1.1 x.1.2.2.2.2.2.2.2.2.2.2.1.2 x.2.1.1 x.2.1.2) (inst 18 [.agg [.s, .s, .s, .sl [Kd.b, Kd.i IntKind.i64, Kd.s]], .agg [.s, .s, .s, .sl [Kd.b, Kd.i IntKind.i64, Kd.s]]] [] (OSh.plain (.i IntKind.i64) []) (fun x e => ref04_Order_v n x.1.1 x.1.2.1 x.1.2.2.1 x.1.2.2.2.1.1 x.1.2.2.2.1.2 x.2.1.1 x.2.1.2.1 x.2.1.2.2.1 x.2.1.2.2.2.1.1 x.2.1.2.2.2.1.2) Spec.none)))))
theorem ref11_Follows_σok (n : Nat) : SpecOk Try.prog (ref11_Follows_σ n) := (inst_ok (fun x e y h => ref11_Name_c n x.1 y h) (inst_ok (fun x e y h => ref11_Unify_c n x.1.1 x.1.2.1 x.1.2.2.1 x.1.2.2.2.1 x.2.1.1 x.2.1.2.1 x.2.1.2.2.1 x.2.2.1.1 x.2.2.1.2 y h) (inst_ok (fun x e y h => ref11_Literal_c n x.1.1 x.1.2.1 x.1.2.2.1 x.1.2.2.2.1 x.2.1.1 x.2.1.2.1 x.2.1.2.2.1 x.2.1.2.2.2.1 x.2.1.2.2.2.2.1 x.2.1.2.2.2.2.2.1.1 x.2.1.2.2.2.2.2.1.2 x.2.1.2.2.2.2.2.2.1 x.2.1.2.2.2.2.2.2.2.1 x.2.1.2.2.2.2.2.2.2.2.1 x.2.1.2.2.2.2.2.2.2.2.2.1 x.2.2.1.1 x.2.2.1.2.1 x.2.2.1.2.2.1 x.2.2.1.2.2.2.1.1 x.2.2.1.2.2.2.1.2 x.2.2.2.1.1 x.2.2.2.1.2 y h) (inst_ok (fun x e y h => ref11_Head_c n x.1.1 x.1.2.1 x.1.2.2.1 x.1.2.2.2.1 x.1.2.2.2.2.1 x.1.2.2.2.2.2.1.1 x.1.2.2.2.2.2.1.2 x.1.2.2.2.2.2.2.1 x.1.2.2.2.2.2.2.2.1 x.1.2.2.2.2.2.2.2.2.1 x.1.2.2.2.2.2.2.2.2.2.1 x.1.2.2.2.2.2.2.2.2.2.2.1.1 x.1.2.2.2.2.2.2.2.2.2.2.1.2 x.2.1.1 x.2.1.2 y h) (inst_ok (fun x e y h => ref04_Order_c n x.1.1 x.1.2.1 x.1.2.2.1 x.1.2.2.2.1.1 x.1.2.2.2.1.2 x.2.1.1 x.2.1.2.1 x.2.1.2.2.1 x.2.1.2.2.2.1.1 x.2.1.2.2.2.1.2 y h) (SpecOk.none _))))))
noncomputable def ref11_Follows_Φ (n : Nat) : Orc := with_ Try.prog (ref11_Follows_σ n) [] n 0 [1000053]
noncomputable def ref11_Follows_v (n : Nat) (s0 : ByteArray) (b1 : Bool) (j2 : Int) (s3 : ByteArray) (s4 : ByteArray) (b5 : Bool) (r6 : Rows) (s7 : ByteArray) (b8 : Bool) (j9 : Int) (s10 : ByteArray) (b11 : Bool) (r12 : Rows) (j13 : Int) (s14 : ByteArray) (s15 : ByteArray) (s16 : ByteArray) (b17 : Bool) (r18 : Rows) (b19 : Bool) (r20 : Rows) : Option (Bool × Unit) :=
  DM.denFn tm (ref11_Follows_Φ n) ref11_Follows_lv n Try.f25 false [AV.agg [AV.dv (DV.val (Value.string s0)), AV.dv (DV.val (Value.bool b1)), AV.dv (DV.val (Value.int IntKind.i64 j2)), AV.dv (DV.val (Value.string s3)), AV.dv (DV.val (Value.string s4)), AV.sl b5 [Kd.s, Kd.b, Kd.i IntKind.i64, Kd.s] r6 Right.no, AV.dv (DV.val (Value.string s7)), AV.dv (DV.val (Value.bool b8)), AV.dv (DV.val (Value.int IntKind.i64 j9)), AV.dv (DV.val (Value.string s10)), AV.sl b11 [Kd.s, Kd.b, Kd.i IntKind.i64, Kd.s, Kd.s, Kd.sl [Kd.s, Kd.b, Kd.i IntKind.i64, Kd.s], Kd.s, Kd.b, Kd.i IntKind.i64, Kd.s] r12 Right.no], AV.agg [AV.dv (DV.val (Value.int IntKind.i64 j13)), AV.dv (DV.val (Value.string s14)), AV.dv (DV.val (Value.string s15)), AV.dv (DV.val (Value.string s16)), AV.sl b17 [Kd.b, Kd.i IntKind.i64, Kd.s] r18 Right.no, AV.sl b19 [Kd.s, Kd.s, Kd.s, Kd.sl [Kd.b, Kd.i IntKind.i64, Kd.s]] r20 Right.no]] [] (OSh.chk (OSh.plain (.b) []))
noncomputable def ref11_Follows_l5 (n : Nat) (s0 : ByteArray) (b1 : Bool) (j2 : Int) (s3 : ByteArray) (s4 : ByteArray) (b5 : Bool) (r6 : Rows) (s7 : ByteArray) (b8 : Bool) (j9 : Int) (s10 : ByteArray) (b11 : Bool) (r12 : Rows) (j13 : Int) (s14 : ByteArray) (s15 : ByteArray) (s16 : ByteArray) (b17 : Bool) (r18 : Rows) (b19 : Bool) (r20 : Rows) (i0 : Nat) (b23 : Bool) (r24 : List (List DV)) (j28 : Int) : Option (Bool × Unit) :=
  DM.loopFn tm (ref11_Follows_Φ n) ref11_Follows_lv n Try.f25 false [] (OSh.chk (OSh.plain (.b) [])) 5 [] i0 (St.mk [AV.junk, AV.junk, AV.pl 2 0, AV.pl 3 0, AV.junk, AV.sl b23 [Kd.s, Kd.b, Kd.i IntKind.i64, Kd.s] r24 (Right.tok 5), AV.junk, AV.dv (DV.val (Value.int IntKind.i64 j28)), AV.junk, AV.junk, AV.junk, AV.junk, AV.junk, AV.junk, AV.junk, AV.junk, AV.junk, AV.junk, AV.junk, AV.junk, AV.junk, AV.junk, AV.junk, AV.junk, AV.junk, AV.junk, AV.junk, AV.junk, AV.junk, AV.junk, AV.junk, AV.junk, AV.junk, AV.junk, AV.junk, AV.junk, AV.junk, AV.junk, AV.junk, AV.junk, AV.junk, AV.junk, AV.junk, AV.junk, AV.junk, AV.junk, AV.junk, AV.junk, AV.junk, AV.junk, AV.junk, AV.junk, AV.junk, AV.junk, AV.junk, AV.junk, AV.junk, AV.junk, AV.junk, AV.junk, AV.junk, AV.junk, AV.junk, AV.junk, AV.junk, AV.junk, AV.junk, AV.junk, AV.junk, AV.junk] [(2, [AV.dv (DV.val (Value.string s0)), AV.dv (DV.val (Value.bool b1)), AV.dv (DV.val (Value.int IntKind.i64 j2)), AV.dv (DV.val (Value.string s3)), AV.dv (DV.val (Value.string s4)), AV.sl b5 [Kd.s, Kd.b, Kd.i IntKind.i64, Kd.s] r6 Right.no, AV.dv (DV.val (Value.string s7)), AV.dv (DV.val (Value.bool b8)), AV.dv (DV.val (Value.int IntKind.i64 j9)), AV.dv (DV.val (Value.string s10)), AV.sl b11 [Kd.s, Kd.b, Kd.i IntKind.i64, Kd.s, Kd.s, Kd.sl [Kd.s, Kd.b, Kd.i IntKind.i64, Kd.s], Kd.s, Kd.b, Kd.i IntKind.i64, Kd.s] r12 Right.no]), (3, [AV.dv (DV.val (Value.int IntKind.i64 j13)), AV.dv (DV.val (Value.string s14)), AV.dv (DV.val (Value.string s15)), AV.dv (DV.val (Value.string s16)), AV.sl b17 [Kd.b, Kd.i IntKind.i64, Kd.s] r18 Right.no, AV.sl b19 [Kd.s, Kd.s, Kd.s, Kd.sl [Kd.b, Kd.i IntKind.i64, Kd.s]] r20 Right.no])])
theorem ref11_Follows_s5 (n : Nat) (s0 : ByteArray) (b1 : Bool) (j2 : Int) (s3 : ByteArray) (s4 : ByteArray) (b5 : Bool) (r6 : Rows) (s7 : ByteArray) (b8 : Bool) (j9 : Int) (s10 : ByteArray) (b11 : Bool) (r12 : Rows) (j13 : Int) (s14 : ByteArray) (s15 : ByteArray) (s16 : ByteArray) (b17 : Bool) (r18 : Rows) (b19 : Bool) (r20 : Rows) (i0 : Nat) (b23 : Bool) (r24 : List (List DV)) (j28 : Int) : ref11_Follows_l5 n s0 b1 j2 s3 s4 b5 r6 s7 b8 j9 s10 b11 r12 j13 s14 s15 s16 b17 r18 b19 r20 (i0 + 1) b23 r24 j28 =
  bif decide (j28 < (↑(List.length r12) : Int)) then
    if 0 ≤ j28 then
      if j28 < (↑(List.length r12) : Int) then
        if 0 ≤ j28 then
          if j28 < (↑(List.length r20) : Int) then
            obind (ref11_Literal_v n s0 b1 j2 s3 (Row.S (List.getD r12 (Int.toNat j28) []) 0) (Row.B (List.getD r12 (Int.toNat j28) []) 1) (Row.I (List.getD r12 (Int.toNat j28) []) 2) (Row.S (List.getD r12 (Int.toNat j28) []) 3) (Row.S (List.getD r12 (Int.toNat j28) []) 4) (Row.N (List.getD r12 (Int.toNat j28) []) 5) (Row.R (List.getD r12 (Int.toNat j28) []) 5) (Row.S (List.getD r12 (Int.toNat j28) []) 6) (Row.B (List.getD r12 (Int.toNat j28) []) 7) (Row.I (List.getD r12 (Int.toNat j28) []) 8) (Row.S (List.getD r12 (Int.toNat j28) []) 9) (Row.S (List.getD r20 (Int.toNat j28) []) 0) (Row.S (List.getD r20 (Int.toNat j28) []) 1) (Row.S (List.getD r20 (Int.toNat j28) []) 2) (Row.N (List.getD r20 (Int.toNat j28) []) 3) (Row.R (List.getD r20 (Int.toNat j28) []) 3) b23 r24) fun y29 =>
            bif !y29.fst.snd.fst then
              some (false, ())
            else ref11_Follows_l5 n s0 b1 j2 s3 s4 b5 r6 s7 b8 j9 s10 b11 r12 j13 s14 s15 s16 b17 r18 b19 r20 i0 y29.fst.fst.fst y29.fst.fst.snd (IntKind.wrap IntKind.i64 (j28 + 1))
          else none
        else none
      else none
    else none
  else obind (ref11_Head_v n s0 b1 j2 s3 s4 b5 r6 s7 b8 j9 s10 b11 r12 b23 r24) fun y30 =>
  bif y30.fst.snd.fst then
    obind (ref04_Order_v n y30.fst.fst.fst y30.fst.fst.snd.fst y30.fst.fst.snd.snd.fst y30.fst.fst.snd.snd.snd.fst.fst y30.fst.fst.snd.snd.snd.fst.snd s14 s15 s16 b17 r18) fun y31 =>
    some (y31.fst == 0, ())
  else some (false, ()) := by kernel_rfl
theorem ref11_Follows_e (n : Nat) (s0 : ByteArray) (b1 : Bool) (j2 : Int) (s3 : ByteArray) (s4 : ByteArray) (b5 : Bool) (r6 : Rows) (s7 : ByteArray) (b8 : Bool) (j9 : Int) (s10 : ByteArray) (b11 : Bool) (r12 : Rows) (j13 : Int) (s14 : ByteArray) (s15 : ByteArray) (s16 : ByteArray) (b17 : Bool) (r18 : Rows) (b19 : Bool) (r20 : Rows) : ref11_Follows_v n s0 b1 j2 s3 s4 b5 r6 s7 b8 j9 s10 b11 r12 j13 s14 s15 s16 b17 r18 b19 r20 =
  obind (ref11_Name_v n s15) fun y21 =>
  obind (ref11_Unify_v n s0 b1 j2 s3 y21.fst.fst y21.fst.snd.fst y21.fst.snd.snd.fst true []) fun y22 =>
  bif !y22.fst.snd.fst then
    some (false, ())
  else bif (↑(List.length r12) : Int) != (↑(List.length r20) : Int) then
    some (false, ())
  else ref11_Follows_l5 n s0 b1 j2 s3 s4 b5 r6 s7 b8 j9 s10 b11 r12 j13 s14 s15 s16 b17 r18 b19 r20 n y22.fst.fst.fst y22.fst.fst.snd 0 := by kernel_rfl
theorem ref11_Follows_c (n : Nat) (s0 : ByteArray) (b1 : Bool) (j2 : Int) (s3 : ByteArray) (s4 : ByteArray) (b5 : Bool) (r6 : Rows) (s7 : ByteArray) (b8 : Bool) (j9 : Int) (s10 : ByteArray) (b11 : Bool) (r12 : Rows) (j13 : Int) (s14 : ByteArray) (s15 : ByteArray) (s16 : ByteArray) (b17 : Bool) (r18 : Rows) (b19 : Bool) (r20 : Rows) (y : Bool × Unit) (h : ref11_Follows_v n s0 b1 j2 s3 s4 b5 r6 s7 b8 j9 s10 b11 r12 j13 s14 s15 s16 b17 r18 b19 r20 = some y) : Contract Try.prog 25 [AV.agg [AV.dv (DV.val (Value.string s0)), AV.dv (DV.val (Value.bool b1)), AV.dv (DV.val (Value.int IntKind.i64 j2)), AV.dv (DV.val (Value.string s3)), AV.dv (DV.val (Value.string s4)), AV.sl b5 [Kd.s, Kd.b, Kd.i IntKind.i64, Kd.s] r6 Right.no, AV.dv (DV.val (Value.string s7)), AV.dv (DV.val (Value.bool b8)), AV.dv (DV.val (Value.int IntKind.i64 j9)), AV.dv (DV.val (Value.string s10)), AV.sl b11 [Kd.s, Kd.b, Kd.i IntKind.i64, Kd.s, Kd.s, Kd.sl [Kd.s, Kd.b, Kd.i IntKind.i64, Kd.s], Kd.s, Kd.b, Kd.i IntKind.i64, Kd.s] r12 Right.no], AV.agg [AV.dv (DV.val (Value.int IntKind.i64 j13)), AV.dv (DV.val (Value.string s14)), AV.dv (DV.val (Value.string s15)), AV.dv (DV.val (Value.string s16)), AV.sl b17 [Kd.b, Kd.i IntKind.i64, Kd.s] r18 Right.no, AV.sl b19 [Kd.s, Kd.s, Kd.s, Kd.sl [Kd.b, Kd.i IntKind.i64, Kd.s]] r20 Right.no]] [] (OSh.enc (OSh.plain (.b) []) y) :=
  auto_okM tm_std (with_ok mixed (by kernel_rfl) (ref11_Follows_σok n) n 0 [1000053]) (with_pick mixed (by kernel_rfl) (ref11_Follows_σok n) n 0 [1000053]) mixed Try.func25 (by decide) (o := (OSh.plain (.b) [])) h
/-! law11_MatchFollows: function 7 -/
def law11_MatchFollows_lv : Live := []
noncomputable def law11_MatchFollows_σ (n : Nat) : Spec := (inst 15 [.agg [.s, .b, .i IntKind.i64, .s, .s, .sl [Kd.s, Kd.b, Kd.i IntKind.i64, Kd.s], .s, .b, .i IntKind.i64, .s, .sl [Kd.s, Kd.b, Kd.i IntKind.i64, Kd.s, Kd.s, Kd.sl [Kd.s, Kd.b, Kd.i IntKind.i64, Kd.s], Kd.s, Kd.b, Kd.i IntKind.i64, Kd.s]], .sl [Kd.s, Kd.s, Kd.s, Kd.sl [Kd.b, Kd.i IntKind.i64, Kd.s]], .sl [Kd.s, Kd.b, Kd.i IntKind.i64, Kd.s]] [] (OSh.plain (.b) []) (fun x e => law11_light_v n x.1.1 x.1.2.1 x.1.2.2.1 x.1.2.2.2.1 x.1.2.2.2.2.1 x.1.2.2.2.2.2.1.1 x.1.2.2.2.2.2.1.2 x.1.2.2.2.2.2.2.1 x.1.2.2.2.2.2.2.2.1 x.1.2.2.2.2.2.2.2.2.1 x.1.2.2.2.2.2.2.2.2.2.1 x.1.2.2.2.2.2.2.2.2.2.2.1.1 x.1.2.2.2.2.2.2.2.2.2.2.1.2 x.2.1.1 x.2.1.2 x.2.2.1.1 x.2.2.1.2) (inst 9 [] [] (OSh.plain (.b) []) (fun x e => law11_live_v n) (inst 24 [.agg [.s, .b, .i IntKind.i64, .s, .s, .sl [Kd.s, Kd.b, Kd.i IntKind.i64, Kd.s], .s, .b, .i IntKind.i64, .s, .sl [Kd.s, Kd.b, Kd.i IntKind.i64, Kd.s, Kd.s, Kd.sl [Kd.s, Kd.b, Kd.i IntKind.i64, Kd.s], Kd.s, Kd.b, Kd.i IntKind.i64, Kd.s]], .agg [.i IntKind.i64, .s, .s, .s, .sl [Kd.b, Kd.i IntKind.i64, Kd.s], .sl [Kd.s, Kd.s, Kd.s, Kd.sl [Kd.b, Kd.i IntKind.i64, Kd.s]]]] [] (OSh.plain (.b) []) (fun x e => match_Follows_v n x.1.1 x.1.2.1 x.1.2.2.1 x.1.2.2.2.1 x.1.2.2.2.2.1 x.1.2.2.2.2.2.1.1 x.1.2.2.2.2.2.1.2 x.1.2.2.2.2.2.2.1 x.1.2.2.2.2.2.2.2.1 x.1.2.2.2.2.2.2.2.2.1 x.1.2.2.2.2.2.2.2.2.2.1 x.1.2.2.2.2.2.2.2.2.2.2.1.1 x.1.2.2.2.2.2.2.2.2.2.2.1.2 x.2.1.1 x.2.1.2.1 x.2.1.2.2.1 x.2.1.2.2.2.1 x.2.1.2.2.2.2.1.1 x.2.1.2.2.2.2.1.2 x.2.1.2.2.2.2.2.1.1 x.2.1.2.2.2.2.2.1.2) (inst 25 [.agg [.s, .b, .i IntKind.i64, .s, .s, .sl [Kd.s, Kd.b, Kd.i IntKind.i64, Kd.s], .s, .b, .i IntKind.i64, .s, .sl [Kd.s, Kd.b, Kd.i IntKind.i64, Kd.s, Kd.s, Kd.sl [Kd.s, Kd.b, Kd.i IntKind.i64, Kd.s], Kd.s, Kd.b, Kd.i IntKind.i64, Kd.s]], .agg [.i IntKind.i64, .s, .s, .s, .sl [Kd.b, Kd.i IntKind.i64, Kd.s], .sl [Kd.s, Kd.s, Kd.s, Kd.sl [Kd.b, Kd.i IntKind.i64, Kd.s]]]] [] (OSh.plain (.b) []) (fun x e => ref11_Follows_v n x.1.1 x.1.2.1 x.1.2.2.1 x.1.2.2.2.1 x.1.2.2.2.2.1 x.1.2.2.2.2.2.1.1 x.1.2.2.2.2.2.1.2 x.1.2.2.2.2.2.2.1 x.1.2.2.2.2.2.2.2.1 x.1.2.2.2.2.2.2.2.2.1 x.1.2.2.2.2.2.2.2.2.2.1 x.1.2.2.2.2.2.2.2.2.2.2.1.1 x.1.2.2.2.2.2.2.2.2.2.2.1.2 x.2.1.1 x.2.1.2.1 x.2.1.2.2.1 x.2.1.2.2.2.1 x.2.1.2.2.2.2.1.1 x.2.1.2.2.2.2.1.2 x.2.1.2.2.2.2.2.1.1 x.2.1.2.2.2.2.2.1.2) Spec.none))))
theorem law11_MatchFollows_σok (n : Nat) : SpecOk Try.prog (law11_MatchFollows_σ n) := (inst_ok (fun x e y h => law11_light_c n x.1.1 x.1.2.1 x.1.2.2.1 x.1.2.2.2.1 x.1.2.2.2.2.1 x.1.2.2.2.2.2.1.1 x.1.2.2.2.2.2.1.2 x.1.2.2.2.2.2.2.1 x.1.2.2.2.2.2.2.2.1 x.1.2.2.2.2.2.2.2.2.1 x.1.2.2.2.2.2.2.2.2.2.1 x.1.2.2.2.2.2.2.2.2.2.2.1.1 x.1.2.2.2.2.2.2.2.2.2.2.1.2 x.2.1.1 x.2.1.2 x.2.2.1.1 x.2.2.1.2 y h) (inst_ok (fun x e y h => law11_live_c n y h) (inst_ok (fun x e y h => match_Follows_c n x.1.1 x.1.2.1 x.1.2.2.1 x.1.2.2.2.1 x.1.2.2.2.2.1 x.1.2.2.2.2.2.1.1 x.1.2.2.2.2.2.1.2 x.1.2.2.2.2.2.2.1 x.1.2.2.2.2.2.2.2.1 x.1.2.2.2.2.2.2.2.2.1 x.1.2.2.2.2.2.2.2.2.2.1 x.1.2.2.2.2.2.2.2.2.2.2.1.1 x.1.2.2.2.2.2.2.2.2.2.2.1.2 x.2.1.1 x.2.1.2.1 x.2.1.2.2.1 x.2.1.2.2.2.1 x.2.1.2.2.2.2.1.1 x.2.1.2.2.2.2.1.2 x.2.1.2.2.2.2.2.1.1 x.2.1.2.2.2.2.2.1.2 y h) (inst_ok (fun x e y h => ref11_Follows_c n x.1.1 x.1.2.1 x.1.2.2.1 x.1.2.2.2.1 x.1.2.2.2.2.1 x.1.2.2.2.2.2.1.1 x.1.2.2.2.2.2.1.2 x.1.2.2.2.2.2.2.1 x.1.2.2.2.2.2.2.2.1 x.1.2.2.2.2.2.2.2.2.1 x.1.2.2.2.2.2.2.2.2.2.1 x.1.2.2.2.2.2.2.2.2.2.2.1.1 x.1.2.2.2.2.2.2.2.2.2.2.1.2 x.2.1.1 x.2.1.2.1 x.2.1.2.2.1 x.2.1.2.2.2.1 x.2.1.2.2.2.2.1.1 x.2.1.2.2.2.2.1.2 x.2.1.2.2.2.2.2.1.1 x.2.1.2.2.2.2.2.1.2 y h) (SpecOk.none _)))))
noncomputable def law11_MatchFollows_Φ (n : Nat) : Orc := with_ Try.prog (law11_MatchFollows_σ n) [] n 0 [1000053]
noncomputable def law11_MatchFollows_v (n : Nat) (s0 : ByteArray) (b1 : Bool) (j2 : Int) (s3 : ByteArray) (s4 : ByteArray) (b5 : Bool) (r6 : Rows) (s7 : ByteArray) (b8 : Bool) (j9 : Int) (s10 : ByteArray) (b11 : Bool) (r12 : Rows) (j13 : Int) (s14 : ByteArray) (s15 : ByteArray) (s16 : ByteArray) (b17 : Bool) (r18 : Rows) (b19 : Bool) (r20 : Rows) : Option (Bool × Unit) :=
  DM.denFn tm (law11_MatchFollows_Φ n) law11_MatchFollows_lv n Try.f7 false [AV.agg [AV.dv (DV.val (Value.string s0)), AV.dv (DV.val (Value.bool b1)), AV.dv (DV.val (Value.int IntKind.i64 j2)), AV.dv (DV.val (Value.string s3)), AV.dv (DV.val (Value.string s4)), AV.sl b5 [Kd.s, Kd.b, Kd.i IntKind.i64, Kd.s] r6 Right.no, AV.dv (DV.val (Value.string s7)), AV.dv (DV.val (Value.bool b8)), AV.dv (DV.val (Value.int IntKind.i64 j9)), AV.dv (DV.val (Value.string s10)), AV.sl b11 [Kd.s, Kd.b, Kd.i IntKind.i64, Kd.s, Kd.s, Kd.sl [Kd.s, Kd.b, Kd.i IntKind.i64, Kd.s], Kd.s, Kd.b, Kd.i IntKind.i64, Kd.s] r12 Right.no], AV.agg [AV.dv (DV.val (Value.int IntKind.i64 j13)), AV.dv (DV.val (Value.string s14)), AV.dv (DV.val (Value.string s15)), AV.dv (DV.val (Value.string s16)), AV.sl b17 [Kd.b, Kd.i IntKind.i64, Kd.s] r18 Right.no, AV.sl b19 [Kd.s, Kd.s, Kd.s, Kd.sl [Kd.b, Kd.i IntKind.i64, Kd.s]] r20 Right.no]] [] (OSh.chk (OSh.plain (.b) []))
theorem law11_MatchFollows_e (n : Nat) (s0 : ByteArray) (b1 : Bool) (j2 : Int) (s3 : ByteArray) (s4 : ByteArray) (b5 : Bool) (r6 : Rows) (s7 : ByteArray) (b8 : Bool) (j9 : Int) (s10 : ByteArray) (b11 : Bool) (r12 : Rows) (j13 : Int) (s14 : ByteArray) (s15 : ByteArray) (s16 : ByteArray) (b17 : Bool) (r18 : Rows) (b19 : Bool) (r20 : Rows) : law11_MatchFollows_v n s0 b1 j2 s3 s4 b5 r6 s7 b8 j9 s10 b11 r12 j13 s14 s15 s16 b17 r18 b19 r20 =
  if (List.length [[DV.val (Value.string s14), DV.val (Value.string s15), DV.val (Value.string s16), DV.sl b17 [Kd.b, Kd.i IntKind.i64, Kd.s] r18]] + List.length r20) * 72 ≤ 140737488355328 then
    obind (law11_light_v n s0 b1 j2 s3 s4 b5 r6 s7 b8 j9 s10 b11 r12 (false && List.isEmpty r20) (appX [[DV.val (Value.string s14), DV.val (Value.string s15), DV.val (Value.string s16), DV.sl b17 [Kd.b, Kd.i IntKind.i64, Kd.s] r18]] r20) true []) fun y21 =>
    bif !y21.fst then
      obind (law11_live_v n) fun y22 =>
      some (y22.fst, ())
    else obind (match_Follows_v n s0 b1 j2 s3 s4 b5 r6 s7 b8 j9 s10 b11 r12 j13 s14 s15 s16 b17 r18 b19 r20) fun y23 =>
    obind (ref11_Follows_v n s0 b1 j2 s3 s4 b5 r6 s7 b8 j9 s10 b11 r12 j13 s14 s15 s16 b17 r18 b19 r20) fun y24 =>
    bif y23.fst == y24.fst then
      obind (law11_live_v n) fun y25 =>
      some (y25.fst, ())
    else some (false, ())
  else none := by kernel_rfl
theorem law11_MatchFollows_c (n : Nat) (s0 : ByteArray) (b1 : Bool) (j2 : Int) (s3 : ByteArray) (s4 : ByteArray) (b5 : Bool) (r6 : Rows) (s7 : ByteArray) (b8 : Bool) (j9 : Int) (s10 : ByteArray) (b11 : Bool) (r12 : Rows) (j13 : Int) (s14 : ByteArray) (s15 : ByteArray) (s16 : ByteArray) (b17 : Bool) (r18 : Rows) (b19 : Bool) (r20 : Rows) (y : Bool × Unit) (h : law11_MatchFollows_v n s0 b1 j2 s3 s4 b5 r6 s7 b8 j9 s10 b11 r12 j13 s14 s15 s16 b17 r18 b19 r20 = some y) : Contract Try.prog 7 [AV.agg [AV.dv (DV.val (Value.string s0)), AV.dv (DV.val (Value.bool b1)), AV.dv (DV.val (Value.int IntKind.i64 j2)), AV.dv (DV.val (Value.string s3)), AV.dv (DV.val (Value.string s4)), AV.sl b5 [Kd.s, Kd.b, Kd.i IntKind.i64, Kd.s] r6 Right.no, AV.dv (DV.val (Value.string s7)), AV.dv (DV.val (Value.bool b8)), AV.dv (DV.val (Value.int IntKind.i64 j9)), AV.dv (DV.val (Value.string s10)), AV.sl b11 [Kd.s, Kd.b, Kd.i IntKind.i64, Kd.s, Kd.s, Kd.sl [Kd.s, Kd.b, Kd.i IntKind.i64, Kd.s], Kd.s, Kd.b, Kd.i IntKind.i64, Kd.s] r12 Right.no], AV.agg [AV.dv (DV.val (Value.int IntKind.i64 j13)), AV.dv (DV.val (Value.string s14)), AV.dv (DV.val (Value.string s15)), AV.dv (DV.val (Value.string s16)), AV.sl b17 [Kd.b, Kd.i IntKind.i64, Kd.s] r18 Right.no, AV.sl b19 [Kd.s, Kd.s, Kd.s, Kd.sl [Kd.b, Kd.i IntKind.i64, Kd.s]] r20 Right.no]] [] (OSh.enc (OSh.plain (.b) []) y) :=
  auto_okM tm_std (with_ok mixed (by kernel_rfl) (law11_MatchFollows_σok n) n 0 [1000053]) (with_pick mixed (by kernel_rfl) (law11_MatchFollows_σok n) n 0 [1000053]) mixed Try.func7 (by decide) (o := (OSh.plain (.b) [])) h
/-! ref11_Body: function 22 -/
def ref11_Body_lv : Live := [(3, [1, 2, 6, 7], [2, 1000, 1001, 1002, 1003])]
noncomputable def ref11_Body_σ (n : Nat) : Spec := (inst 30 [.agg [.s, .b, .i IntKind.i64, .s]] [] (OSh.plain (.b) []) (fun x e => ref11_none_v n x.1.1 x.1.2.1 x.1.2.2.1 x.1.2.2.2.1) (inst 41 [.agg [.s, .b, .i IntKind.i64, .s], .sl [Kd.s, Kd.b, Kd.i IntKind.i64, Kd.s]] [] (OSh.plain (.tup [.s, .b]) []) (fun x e => ref11_name_v n x.1.1 x.1.2.1 x.1.2.2.1 x.1.2.2.2.1 x.2.1.1 x.2.1.2) (inst 42 [.sl [Kd.s, Kd.b, Kd.i IntKind.i64, Kd.s], .sl [Kd.s, Kd.b, Kd.i IntKind.i64, Kd.s]] [] (OSh.plain (.tup [.slt [Kd.b, Kd.i IntKind.i64, Kd.s] 0, .b]) []) (fun x e => ref11_values_v n x.1.1 x.1.2 x.2.1.1 x.2.1.2) Spec.none)))
theorem ref11_Body_σok (n : Nat) : SpecOk Try.prog (ref11_Body_σ n) := (inst_ok (fun x e y h => ref11_none_c n x.1.1 x.1.2.1 x.1.2.2.1 x.1.2.2.2.1 y h) (inst_ok (fun x e y h => ref11_name_c n x.1.1 x.1.2.1 x.1.2.2.1 x.1.2.2.2.1 x.2.1.1 x.2.1.2 y h) (inst_ok (fun x e y h => ref11_values_c n x.1.1 x.1.2 x.2.1.1 x.2.1.2 y h) (SpecOk.none _))))
noncomputable def ref11_Body_Φ (n : Nat) : Orc := with_ Try.prog (ref11_Body_σ n) [] n 0 [1000053]
noncomputable def ref11_Body_v (n : Nat) (s0 : ByteArray) (b1 : Bool) (j2 : Int) (s3 : ByteArray) (s4 : ByteArray) (b5 : Bool) (r6 : Rows) (s7 : ByteArray) (b8 : Bool) (j9 : Int) (s10 : ByteArray) (b11 : Bool) (r12 : Rows) (b13 : Bool) (r14 : Rows) : Option (((Bool × Rows) × Bool × Unit) × Unit) :=
  DM.denFn tm (ref11_Body_Φ n) ref11_Body_lv n Try.f22 true [AV.agg [AV.dv (DV.val (Value.string s0)), AV.dv (DV.val (Value.bool b1)), AV.dv (DV.val (Value.int IntKind.i64 j2)), AV.dv (DV.val (Value.string s3)), AV.dv (DV.val (Value.string s4)), AV.sl b5 [Kd.s, Kd.b, Kd.i IntKind.i64, Kd.s] r6 Right.no, AV.dv (DV.val (Value.string s7)), AV.dv (DV.val (Value.bool b8)), AV.dv (DV.val (Value.int IntKind.i64 j9)), AV.dv (DV.val (Value.string s10)), AV.sl b11 [Kd.s, Kd.b, Kd.i IntKind.i64, Kd.s, Kd.s, Kd.sl [Kd.s, Kd.b, Kd.i IntKind.i64, Kd.s], Kd.s, Kd.b, Kd.i IntKind.i64, Kd.s] r12 Right.no], AV.sl b13 [Kd.s, Kd.b, Kd.i IntKind.i64, Kd.s] r14 Right.no] [] (OSh.chk (OSh.plain (.tup [.slt [Kd.s, Kd.s, Kd.s, Kd.sl [Kd.b, Kd.i IntKind.i64, Kd.s]] 0, .b]) []))
noncomputable def ref11_Body_l3 (n : Nat) (s0 : ByteArray) (b1 : Bool) (j2 : Int) (s3 : ByteArray) (s4 : ByteArray) (b5 : Bool) (r6 : Rows) (s7 : ByteArray) (b8 : Bool) (j9 : Int) (s10 : ByteArray) (b11 : Bool) (r12 : Rows) (b13 : Bool) (r14 : Rows) (i0 : Nat) (b30 : Bool) (r31 : List (List DV)) (j32 : Int) : Option (((Bool × Rows) × Bool × Unit) × Unit) :=
  DM.loopFn tm (ref11_Body_Φ n) ref11_Body_lv n Try.f22 true [] (OSh.chk (OSh.plain (.tup [.slt [Kd.s, Kd.s, Kd.s, Kd.sl [Kd.b, Kd.i IntKind.i64, Kd.s]] 0, .b]) [])) 3 [] i0 (St.mk [AV.junk, AV.sl b13 [Kd.s, Kd.b, Kd.i IntKind.i64, Kd.s] r14 Right.no, AV.pl 2 0, AV.junk, AV.junk, AV.junk, AV.sl b30 [Kd.s, Kd.s, Kd.s, Kd.sl [Kd.b, Kd.i IntKind.i64, Kd.s]] r31 (Right.tok 6), AV.dv (DV.val (Value.int IntKind.i64 j32)), AV.junk, AV.junk, AV.junk, AV.junk, AV.junk, AV.junk, AV.junk, AV.junk, AV.junk, AV.junk, AV.junk, AV.junk, AV.junk, AV.junk, AV.junk, AV.junk, AV.junk, AV.junk, AV.junk, AV.junk, AV.junk, AV.junk, AV.junk, AV.junk, AV.junk, AV.junk, AV.junk, AV.junk, AV.junk, AV.junk, AV.junk, AV.junk, AV.junk, AV.junk, AV.junk, AV.junk, AV.junk, AV.junk, AV.junk, AV.junk, AV.junk, AV.junk, AV.junk, AV.junk, AV.junk, AV.junk, AV.junk, AV.junk, AV.junk, AV.junk, AV.junk, AV.junk, AV.junk, AV.junk, AV.junk, AV.junk, AV.junk, AV.junk, AV.junk, AV.junk, AV.junk, AV.junk, AV.junk, AV.junk, AV.junk, AV.junk, AV.junk, AV.junk, AV.junk, AV.junk, AV.junk] [(2, [AV.dv (DV.val (Value.string s0)), AV.dv (DV.val (Value.bool b1)), AV.dv (DV.val (Value.int IntKind.i64 j2)), AV.dv (DV.val (Value.string s3)), AV.dv (DV.val (Value.string s4)), AV.sl b5 [Kd.s, Kd.b, Kd.i IntKind.i64, Kd.s] r6 Right.no, AV.dv (DV.val (Value.string s7)), AV.dv (DV.val (Value.bool b8)), AV.dv (DV.val (Value.int IntKind.i64 j9)), AV.dv (DV.val (Value.string s10)), AV.sl b11 [Kd.s, Kd.b, Kd.i IntKind.i64, Kd.s, Kd.s, Kd.sl [Kd.s, Kd.b, Kd.i IntKind.i64, Kd.s], Kd.s, Kd.b, Kd.i IntKind.i64, Kd.s] r12 Right.no])])
theorem ref11_Body_s3 (n : Nat) (s0 : ByteArray) (b1 : Bool) (j2 : Int) (s3 : ByteArray) (s4 : ByteArray) (b5 : Bool) (r6 : Rows) (s7 : ByteArray) (b8 : Bool) (j9 : Int) (s10 : ByteArray) (b11 : Bool) (r12 : Rows) (b13 : Bool) (r14 : Rows) (i0 : Nat) (b30 : Bool) (r31 : List (List DV)) (j32 : Int) : ref11_Body_l3 n s0 b1 j2 s3 s4 b5 r6 s7 b8 j9 s10 b11 r12 b13 r14 (i0 + 1) b30 r31 j32 =
  bif decide (j32 < (↑(List.length r12) : Int)) then
    if 0 ≤ j32 then
      if j32 < (↑(List.length r12) : Int) then
        obind (ref11_none_v n (Row.S (List.getD r12 (Int.toNat j32) []) 6) (Row.B (List.getD r12 (Int.toNat j32) []) 7) (Row.I (List.getD r12 (Int.toNat j32) []) 8) (Row.S (List.getD r12 (Int.toNat j32) []) 9)) fun y33 =>
        bif y33.fst then
          obind (ref11_none_v n (Row.S (List.getD r12 (Int.toNat j32) []) 0) (Row.B (List.getD r12 (Int.toNat j32) []) 1) (Row.I (List.getD r12 (Int.toNat j32) []) 2) (Row.S (List.getD r12 (Int.toNat j32) []) 3)) fun y34 =>
          bif y34.fst then
            obind (ref11_name_v n s0 b1 j2 s3 b13 r14) fun y35 =>
            obind (ref11_name_v n s0 b1 j2 s3 b13 r14) fun y36 =>
            obind (ref11_values_v n (Row.N (List.getD r12 (Int.toNat j32) []) 5) (Row.R (List.getD r12 (Int.toNat j32) []) 5) b13 r14) fun y37 =>
            bif !y35.fst.snd.fst then
              some (((true, []), (false, ())), ())
            else bif !y36.fst.snd.fst then
              some (((true, []), (false, ())), ())
            else bif !y37.fst.snd.fst then
              some (((true, []), (false, ())), ())
            else if (List.length r31 + List.length [[DV.val (Value.string y35.fst.fst), DV.val (Value.string y36.fst.fst), DV.val (Value.string (Row.S (List.getD r12 (Int.toNat j32) []) 4)), DV.sl y37.fst.fst.fst [Kd.b, Kd.i IntKind.i64, Kd.s] y37.fst.fst.snd]]) * 72 ≤ 140737488355328 then
              ref11_Body_l3 n s0 b1 j2 s3 s4 b5 r6 s7 b8 j9 s10 b11 r12 b13 r14 i0 (b30 && List.isEmpty [[DV.val (Value.string y35.fst.fst), DV.val (Value.string y36.fst.fst), DV.val (Value.string (Row.S (List.getD r12 (Int.toNat j32) []) 4)), DV.sl y37.fst.fst.fst [Kd.b, Kd.i IntKind.i64, Kd.s] y37.fst.fst.snd]]) (appX r31 [[DV.val (Value.string y35.fst.fst), DV.val (Value.string y36.fst.fst), DV.val (Value.string (Row.S (List.getD r12 (Int.toNat j32) []) 4)), DV.sl y37.fst.fst.fst [Kd.b, Kd.i IntKind.i64, Kd.s] y37.fst.fst.snd]]) (IntKind.wrap IntKind.i64 (j32 + 1))
            else none
          else obind (ref11_name_v n s0 b1 j2 s3 b13 r14) fun y38 =>
          obind (ref11_name_v n (Row.S (List.getD r12 (Int.toNat j32) []) 0) (Row.B (List.getD r12 (Int.toNat j32) []) 1) (Row.I (List.getD r12 (Int.toNat j32) []) 2) (Row.S (List.getD r12 (Int.toNat j32) []) 3) b13 r14) fun y39 =>
          obind (ref11_values_v n (Row.N (List.getD r12 (Int.toNat j32) []) 5) (Row.R (List.getD r12 (Int.toNat j32) []) 5) b13 r14) fun y40 =>
          bif !y38.fst.snd.fst then
            some (((true, []), (false, ())), ())
          else bif !y39.fst.snd.fst then
            some (((true, []), (false, ())), ())
          else bif !y40.fst.snd.fst then
            some (((true, []), (false, ())), ())
          else if (List.length r31 + List.length [[DV.val (Value.string y38.fst.fst), DV.val (Value.string y39.fst.fst), DV.val (Value.string (Row.S (List.getD r12 (Int.toNat j32) []) 4)), DV.sl y40.fst.fst.fst [Kd.b, Kd.i IntKind.i64, Kd.s] y40.fst.fst.snd]]) * 72 ≤ 140737488355328 then
            ref11_Body_l3 n s0 b1 j2 s3 s4 b5 r6 s7 b8 j9 s10 b11 r12 b13 r14 i0 (b30 && List.isEmpty [[DV.val (Value.string y38.fst.fst), DV.val (Value.string y39.fst.fst), DV.val (Value.string (Row.S (List.getD r12 (Int.toNat j32) []) 4)), DV.sl y40.fst.fst.fst [Kd.b, Kd.i IntKind.i64, Kd.s] y40.fst.fst.snd]]) (appX r31 [[DV.val (Value.string y38.fst.fst), DV.val (Value.string y39.fst.fst), DV.val (Value.string (Row.S (List.getD r12 (Int.toNat j32) []) 4)), DV.sl y40.fst.fst.fst [Kd.b, Kd.i IntKind.i64, Kd.s] y40.fst.fst.snd]]) (IntKind.wrap IntKind.i64 (j32 + 1))
          else none
        else obind (ref11_none_v n (Row.S (List.getD r12 (Int.toNat j32) []) 0) (Row.B (List.getD r12 (Int.toNat j32) []) 1) (Row.I (List.getD r12 (Int.toNat j32) []) 2) (Row.S (List.getD r12 (Int.toNat j32) []) 3)) fun y41 =>
        bif y41.fst then
          obind (ref11_name_v n (Row.S (List.getD r12 (Int.toNat j32) []) 6) (Row.B (List.getD r12 (Int.toNat j32) []) 7) (Row.I (List.getD r12 (Int.toNat j32) []) 8) (Row.S (List.getD r12 (Int.toNat j32) []) 9) b13 r14) fun y42 =>
          obind (ref11_name_v n (Row.S (List.getD r12 (Int.toNat j32) []) 6) (Row.B (List.getD r12 (Int.toNat j32) []) 7) (Row.I (List.getD r12 (Int.toNat j32) []) 8) (Row.S (List.getD r12 (Int.toNat j32) []) 9) b13 r14) fun y43 =>
          obind (ref11_values_v n (Row.N (List.getD r12 (Int.toNat j32) []) 5) (Row.R (List.getD r12 (Int.toNat j32) []) 5) b13 r14) fun y44 =>
          bif !y42.fst.snd.fst then
            some (((true, []), (false, ())), ())
          else bif !y43.fst.snd.fst then
            some (((true, []), (false, ())), ())
          else bif !y44.fst.snd.fst then
            some (((true, []), (false, ())), ())
          else if (List.length r31 + List.length [[DV.val (Value.string y42.fst.fst), DV.val (Value.string y43.fst.fst), DV.val (Value.string (Row.S (List.getD r12 (Int.toNat j32) []) 4)), DV.sl y44.fst.fst.fst [Kd.b, Kd.i IntKind.i64, Kd.s] y44.fst.fst.snd]]) * 72 ≤ 140737488355328 then
            ref11_Body_l3 n s0 b1 j2 s3 s4 b5 r6 s7 b8 j9 s10 b11 r12 b13 r14 i0 (b30 && List.isEmpty [[DV.val (Value.string y42.fst.fst), DV.val (Value.string y43.fst.fst), DV.val (Value.string (Row.S (List.getD r12 (Int.toNat j32) []) 4)), DV.sl y44.fst.fst.fst [Kd.b, Kd.i IntKind.i64, Kd.s] y44.fst.fst.snd]]) (appX r31 [[DV.val (Value.string y42.fst.fst), DV.val (Value.string y43.fst.fst), DV.val (Value.string (Row.S (List.getD r12 (Int.toNat j32) []) 4)), DV.sl y44.fst.fst.fst [Kd.b, Kd.i IntKind.i64, Kd.s] y44.fst.fst.snd]]) (IntKind.wrap IntKind.i64 (j32 + 1))
          else none
        else obind (ref11_name_v n (Row.S (List.getD r12 (Int.toNat j32) []) 6) (Row.B (List.getD r12 (Int.toNat j32) []) 7) (Row.I (List.getD r12 (Int.toNat j32) []) 8) (Row.S (List.getD r12 (Int.toNat j32) []) 9) b13 r14) fun y45 =>
        obind (ref11_name_v n (Row.S (List.getD r12 (Int.toNat j32) []) 0) (Row.B (List.getD r12 (Int.toNat j32) []) 1) (Row.I (List.getD r12 (Int.toNat j32) []) 2) (Row.S (List.getD r12 (Int.toNat j32) []) 3) b13 r14) fun y46 =>
        obind (ref11_values_v n (Row.N (List.getD r12 (Int.toNat j32) []) 5) (Row.R (List.getD r12 (Int.toNat j32) []) 5) b13 r14) fun y47 =>
        bif !y45.fst.snd.fst then
          some (((true, []), (false, ())), ())
        else bif !y46.fst.snd.fst then
          some (((true, []), (false, ())), ())
        else bif !y47.fst.snd.fst then
          some (((true, []), (false, ())), ())
        else if (List.length r31 + List.length [[DV.val (Value.string y45.fst.fst), DV.val (Value.string y46.fst.fst), DV.val (Value.string (Row.S (List.getD r12 (Int.toNat j32) []) 4)), DV.sl y47.fst.fst.fst [Kd.b, Kd.i IntKind.i64, Kd.s] y47.fst.fst.snd]]) * 72 ≤ 140737488355328 then
          ref11_Body_l3 n s0 b1 j2 s3 s4 b5 r6 s7 b8 j9 s10 b11 r12 b13 r14 i0 (b30 && List.isEmpty [[DV.val (Value.string y45.fst.fst), DV.val (Value.string y46.fst.fst), DV.val (Value.string (Row.S (List.getD r12 (Int.toNat j32) []) 4)), DV.sl y47.fst.fst.fst [Kd.b, Kd.i IntKind.i64, Kd.s] y47.fst.fst.snd]]) (appX r31 [[DV.val (Value.string y45.fst.fst), DV.val (Value.string y46.fst.fst), DV.val (Value.string (Row.S (List.getD r12 (Int.toNat j32) []) 4)), DV.sl y47.fst.fst.fst [Kd.b, Kd.i IntKind.i64, Kd.s] y47.fst.fst.snd]]) (IntKind.wrap IntKind.i64 (j32 + 1))
        else none
      else none
    else none
  else some (((b30, r31), (true, ())), ()) := by kernel_rfl
theorem ref11_Body_e (n : Nat) (s0 : ByteArray) (b1 : Bool) (j2 : Int) (s3 : ByteArray) (s4 : ByteArray) (b5 : Bool) (r6 : Rows) (s7 : ByteArray) (b8 : Bool) (j9 : Int) (s10 : ByteArray) (b11 : Bool) (r12 : Rows) (b13 : Bool) (r14 : Rows) : ref11_Body_v n s0 b1 j2 s3 s4 b5 r6 s7 b8 j9 s10 b11 r12 b13 r14 =
  ref11_Body_l3 n s0 b1 j2 s3 s4 b5 r6 s7 b8 j9 s10 b11 r12 b13 r14 n true [] 0 := by kernel_rfl
theorem ref11_Body_c (n : Nat) (s0 : ByteArray) (b1 : Bool) (j2 : Int) (s3 : ByteArray) (s4 : ByteArray) (b5 : Bool) (r6 : Rows) (s7 : ByteArray) (b8 : Bool) (j9 : Int) (s10 : ByteArray) (b11 : Bool) (r12 : Rows) (b13 : Bool) (r14 : Rows) (y : ((Bool × Rows) × Bool × Unit) × Unit) (h : ref11_Body_v n s0 b1 j2 s3 s4 b5 r6 s7 b8 j9 s10 b11 r12 b13 r14 = some y) : Contract Try.prog 22 [AV.agg [AV.dv (DV.val (Value.string s0)), AV.dv (DV.val (Value.bool b1)), AV.dv (DV.val (Value.int IntKind.i64 j2)), AV.dv (DV.val (Value.string s3)), AV.dv (DV.val (Value.string s4)), AV.sl b5 [Kd.s, Kd.b, Kd.i IntKind.i64, Kd.s] r6 Right.no, AV.dv (DV.val (Value.string s7)), AV.dv (DV.val (Value.bool b8)), AV.dv (DV.val (Value.int IntKind.i64 j9)), AV.dv (DV.val (Value.string s10)), AV.sl b11 [Kd.s, Kd.b, Kd.i IntKind.i64, Kd.s, Kd.s, Kd.sl [Kd.s, Kd.b, Kd.i IntKind.i64, Kd.s], Kd.s, Kd.b, Kd.i IntKind.i64, Kd.s] r12 Right.no], AV.sl b13 [Kd.s, Kd.b, Kd.i IntKind.i64, Kd.s] r14 Right.no] [] (OSh.enc (OSh.plain (.tup [.slt [Kd.s, Kd.s, Kd.s, Kd.sl [Kd.b, Kd.i IntKind.i64, Kd.s]] 0, .b]) []) y) :=
  auto_okM tm_std (with_ok mixed (by kernel_rfl) (ref11_Body_σok n) n 0 [1000053]) (with_pick mixed (by kernel_rfl) (ref11_Body_σok n) n 0 [1000053]) mixed Try.func22 (by decide) (o := (OSh.plain (.tup [.slt [Kd.s, Kd.s, Kd.s, Kd.sl [Kd.b, Kd.i IntKind.i64, Kd.s]] 0, .b]) [])) h
end Go.Den
