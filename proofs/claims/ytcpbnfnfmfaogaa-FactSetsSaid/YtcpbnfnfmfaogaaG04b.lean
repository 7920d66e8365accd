import Derived.Test.YtcpbnfnfmfaogaaH04
set_option linter.unusedVariables false
set_option linter.unusedSimpArgs false
set_option linter.unusedSectionVars false
namespace Go.Den
open Go.Proofs
set_option maxRecDepth 100000
/-! fact_Sorted: function 23 -/
def fact_Sorted_lv : Live := [(3, [3, 6, 7, 8], [1000, 1001, 1002, 1003]), (1000008, [0, 3, 3], []), (1999998, [1, 2], [])]
noncomputable def fact_Sorted_σ (n : Nat) : Spec := (inst 65 [.sl [Kd.b, Kd.i IntKind.i64, Kd.s]] [] (OSh.plain (.slt [Kd.b, Kd.i IntKind.i64, Kd.s] 0) []) (fun x e => slices_Clone_v n x.1.1 x.1.2) (inst 66 [.sl [Kd.s, Kd.s, Kd.s, Kd.sl [Kd.b, Kd.i IntKind.i64, Kd.s]], .fn 20 []] [] (OSh.plain (.tup []) []) (fun x e => slices_SortFunc_fact_Order_v n x.1.1 x.1.2) (inst 67 [.slt [Kd.s, Kd.s, Kd.s, Kd.sl [Kd.b, Kd.i IntKind.i64, Kd.s]] 500000, .fn 68 []] [] (OSh.plain (.slt [Kd.s, Kd.s, Kd.s, Kd.sl [Kd.b, Kd.i IntKind.i64, Kd.s]] 0) []) (fun x e => slices_CompactFunc_fact_Sorted_1_v n x.1.1 x.1.2) (inst 66 [.ms0 1000 [Kd.s, Kd.s, Kd.s, Kd.sl [Kd.b, Kd.i IntKind.i64, Kd.s]], .fn 20 []] [[.arr [Kd.s, Kd.s, Kd.s, Kd.sl [Kd.b, Kd.i IntKind.i64, Kd.s]]]] (OSh.plain (.tup []) [[.arr [Kd.s, Kd.s, Kd.s, Kd.sl [Kd.b, Kd.i IntKind.i64, Kd.s]]]]) (fun x e => slices_SortFunc_mz_fact_Order_v n x.1.1 x.1.2 e.1.1) (inst 67 [.ms0 1000 [Kd.s, Kd.s, Kd.s, Kd.sl [Kd.b, Kd.i IntKind.i64, Kd.s]], .fn 68 []] [[.arr [Kd.s, Kd.s, Kd.s, Kd.sl [Kd.b, Kd.i IntKind.i64, Kd.s]]]] (OSh.plain (.ms0 1000 [Kd.s, Kd.s, Kd.s, Kd.sl [Kd.b, Kd.i IntKind.i64, Kd.s]]) [[.arr [Kd.s, Kd.s, Kd.s, Kd.sl [Kd.b, Kd.i IntKind.i64, Kd.s]]]]) (fun x e => slices_CompactFunc_mz_fact_Sorted_1_v n x.1.1 x.1.2 e.1.1) Spec.none)))))
theorem fact_Sorted_σok (n : Nat) : SpecOk Try.prog (fact_Sorted_σ n) := (inst_ok (fun x e y h => slices_Clone_c n x.1.1 x.1.2 y h) (inst_ok (fun x e y h => slices_SortFunc_fact_Order_c n x.1.1 x.1.2 y h) (inst_ok (fun x e y h => slices_CompactFunc_fact_Sorted_1_c n x.1.1 x.1.2 y h) (inst_ok (fun x e y h => slices_SortFunc_mz_fact_Order_c n x.1.1 x.1.2 e.1.1 y h) (inst_ok (fun x e y h => slices_CompactFunc_mz_fact_Sorted_1_c n x.1.1 x.1.2 e.1.1 y h) (SpecOk.none _))))))
noncomputable def fact_Sorted_Φ (n : Nat) : Orc := with_ Try.prog (fact_Sorted_σ n) [] n 0 [1000067, 1000069]
noncomputable def fact_Sorted_v (n : Nat) (b0 : Bool) (r1 : Rows) : Option ((Bool × Rows) × Unit) :=
  DM.denFn tm (fact_Sorted_Φ n) fact_Sorted_lv n Try.f23 true [AV.sl b0 [Kd.s, Kd.s, Kd.s, Kd.sl [Kd.b, Kd.i IntKind.i64, Kd.s]] r1 Right.no] [] (OSh.chk (OSh.plain (.slt [Kd.s, Kd.s, Kd.s, Kd.sl [Kd.b, Kd.i IntKind.i64, Kd.s]] 0) []))
noncomputable def fact_Sorted_l3 (n : Nat) (b0 : Bool) (r1 : Rows) (i0 : Nat) (b5 : Bool) (r6 : List (List DV)) (j7 : Int) : Option ((Bool × Rows) × Unit) :=
  DM.loopFn tm (fact_Sorted_Φ n) fact_Sorted_lv n Try.f23 true [] (OSh.chk (OSh.plain (.slt [Kd.s, Kd.s, Kd.s, Kd.sl [Kd.b, Kd.i IntKind.i64, Kd.s]] 0) [])) 3 [] i0 (St.mk [AV.junk, AV.junk, AV.junk, AV.sl b5 [Kd.s, Kd.s, Kd.s, Kd.sl [Kd.b, Kd.i IntKind.i64, Kd.s]] r6 (Right.tok 3), AV.junk, AV.junk, AV.sl b0 [Kd.s, Kd.s, Kd.s, Kd.sl [Kd.b, Kd.i IntKind.i64, Kd.s]] r1 Right.no, AV.dv (DV.val (Value.int IntKind.i64 (↑(List.length r1) : Int))), AV.dv (DV.val (Value.int IntKind.i64 j7)), AV.junk, AV.junk, AV.junk, AV.junk, AV.junk, AV.junk, AV.junk, AV.junk, AV.junk, AV.junk, AV.junk, AV.junk, AV.junk, AV.junk, AV.junk, AV.junk] [])
theorem fact_Sorted_s3 (n : Nat) (b0 : Bool) (r1 : Rows) (i0 : Nat) (b5 : Bool) (r6 : List (List DV)) (j7 : Int) : fact_Sorted_l3 n b0 r1 (i0 + 1) b5 r6 j7 =
  bif decide (j7 < (↑(List.length r1) : Int)) then
    if 0 ≤ j7 then
      if j7 < (↑(List.length r1) : Int) then
        obind (slices_Clone_v n (Row.N (List.getD r1 (Int.toNat j7) []) 3) (Row.R (List.getD r1 (Int.toNat j7) []) 3)) fun y8 =>
        if (List.length r6 + List.length [[DV.val (Value.string (Row.S (List.getD r1 (Int.toNat j7) []) 0)), DV.val (Value.string (Row.S (List.getD r1 (Int.toNat j7) []) 1)), DV.val (Value.string (Row.S (List.getD r1 (Int.toNat j7) []) 2)), DV.sl y8.fst.fst [Kd.b, Kd.i IntKind.i64, Kd.s] y8.fst.snd]]) * 72 ≤ 140737488355328 then
          fact_Sorted_l3 n b0 r1 i0 (b5 && List.isEmpty [[DV.val (Value.string (Row.S (List.getD r1 (Int.toNat j7) []) 0)), DV.val (Value.string (Row.S (List.getD r1 (Int.toNat j7) []) 1)), DV.val (Value.string (Row.S (List.getD r1 (Int.toNat j7) []) 2)), DV.sl y8.fst.fst [Kd.b, Kd.i IntKind.i64, Kd.s] y8.fst.snd]]) (appX r6 [[DV.val (Value.string (Row.S (List.getD r1 (Int.toNat j7) []) 0)), DV.val (Value.string (Row.S (List.getD r1 (Int.toNat j7) []) 1)), DV.val (Value.string (Row.S (List.getD r1 (Int.toNat j7) []) 2)), DV.sl y8.fst.fst [Kd.b, Kd.i IntKind.i64, Kd.s] y8.fst.snd]]) (IntKind.wrap IntKind.i64 (j7 + 1))
        else none
      else none
    else none
  else bif b5 || List.isEmpty r6 then
    obind (slices_SortFunc_fact_Order_v n b5 []) fun y9 =>
    obind (slices_CompactFunc_fact_Sorted_1_v n b5 []) fun y10 =>
    some ((y10.fst.fst, y10.fst.snd), ())
  else obind (slices_SortFunc_mz_fact_Order_v n (List.length r6) (List.length r6) r6) fun y11 =>
  obind (slices_CompactFunc_mz_fact_Sorted_1_v n (List.length r6) (List.length r6) y11.snd.fst.fst) fun y12 =>
  if 0 + y12.fst.fst ≤ List.length y12.snd.fst.fst then
    some ((false, List.take y12.fst.fst (List.drop 0 y12.snd.fst.fst)), ())
  else none := by kernel_rfl
theorem fact_Sorted_e (n : Nat) (b0 : Bool) (r1 : Rows) : fact_Sorted_v n b0 r1 =
  fact_Sorted_l3 n b0 r1 n true [] 0 := by kernel_rfl
theorem fact_Sorted_c (n : Nat) (b0 : Bool) (r1 : Rows) (y : (Bool × Rows) × Unit) (h : fact_Sorted_v n b0 r1 = some y) : Contract Try.prog 23 [AV.sl b0 [Kd.s, Kd.s, Kd.s, Kd.sl [Kd.b, Kd.i IntKind.i64, Kd.s]] r1 Right.no] [] (OSh.enc (OSh.plain (.slt [Kd.s, Kd.s, Kd.s, Kd.sl [Kd.b, Kd.i IntKind.i64, Kd.s]] 0) []) y) :=
  auto_okM tm_std (with_ok mixed (by kernel_rfl) (fact_Sorted_σok n) n 0 [1000067, 1000069]) (with_pick mixed (by kernel_rfl) (fact_Sorted_σok n) n 0 [1000067, 1000069]) mixed Try.func23 (by decide) (o := (OSh.plain (.slt [Kd.s, Kd.s, Kd.s, Kd.sl [Kd.b, Kd.i IntKind.i64, Kd.s]] 0) [])) h
/-! law04_live: function 19 -/
def law04_live_lv : Live := []
noncomputable def law04_live_σ (n : Nat) : Spec := (inst 28 [.i IntKind.i64] [] (OSh.plain (.agg [.b, .i IntKind.i64, .s]) []) (fun x e => law04_num_v n x.1) (inst 27 [.s, .s, .sl [Kd.b, Kd.i IntKind.i64, Kd.s]] [] (OSh.plain (.agg [.s, .s, .s, .slt [Kd.b, Kd.i IntKind.i64, Kd.s] 3]) []) (fun x e => fact_Own_v n x.1 x.2.1 x.2.2.1.1 x.2.2.1.2) (inst 23 [.sl [Kd.s, Kd.s, Kd.s, Kd.sl [Kd.b, Kd.i IntKind.i64, Kd.s]]] [] (OSh.plain (.slt [Kd.s, Kd.s, Kd.s, Kd.sl [Kd.b, Kd.i IntKind.i64, Kd.s]] 0) []) (fun x e => fact_Sorted_v n x.1.1 x.1.2) (inst 17 [.agg [.b, .i IntKind.i64, .s], .agg [.b, .i IntKind.i64, .s]] [] (OSh.plain (.i IntKind.i64) []) (fun x e => fact_Compare_v n x.1.1 x.1.2.1 x.1.2.2.1 x.2.1.1 x.2.1.2.1 x.2.1.2.2.1) (inst 20 [.agg [.s, .s, .s, .sl [Kd.b, Kd.i IntKind.i64, Kd.s]], .agg [.s, .s, .s, .sl [Kd.b, Kd.i IntKind.i64, Kd.s]]] [] (OSh.plain (.i IntKind.i64) []) (fun x e => fact_Order_v n x.1.1 x.1.2.1 x.1.2.2.1 x.1.2.2.2.1.1 x.1.2.2.2.1.2 x.2.1.1 x.2.1.2.1 x.2.1.2.2.1 x.2.1.2.2.2.1.1 x.2.1.2.2.2.1.2) (inst 15 [.agg [.b, .i IntKind.i64, .s]] [] (OSh.plain (.b) []) (fun x e => fact_Good_v n x.1.1 x.1.2.1 x.1.2.2.1) Spec.none))))))
theorem law04_live_σok (n : Nat) : SpecOk Try.prog (law04_live_σ n) := (inst_ok (fun x e y h => law04_num_c n x.1 y h) (inst_ok (fun x e y h => fact_Own_c n x.1 x.2.1 x.2.2.1.1 x.2.2.1.2 y h) (inst_ok (fun x e y h => fact_Sorted_c n x.1.1 x.1.2 y h) (inst_ok (fun x e y h => fact_Compare_c n x.1.1 x.1.2.1 x.1.2.2.1 x.2.1.1 x.2.1.2.1 x.2.1.2.2.1 y h) (inst_ok (fun x e y h => fact_Order_c n x.1.1 x.1.2.1 x.1.2.2.1 x.1.2.2.2.1.1 x.1.2.2.2.1.2 x.2.1.1 x.2.1.2.1 x.2.1.2.2.1 x.2.1.2.2.2.1.1 x.2.1.2.2.2.1.2 y h) (inst_ok (fun x e y h => fact_Good_c n x.1.1 x.1.2.1 x.1.2.2.1 y h) (SpecOk.none _)))))))
noncomputable def law04_live_Φ (n : Nat) : Orc := with_ Try.prog (law04_live_σ n) [] n 0 [1000067, 1000069]
noncomputable def law04_live_v (n : Nat) : Option (Bool × Unit) :=
  DM.denFn tm (law04_live_Φ n) law04_live_lv n Try.f19 false [] [] (OSh.chk (OSh.plain (.b) []))
theorem law04_live_e (n : Nat) : law04_live_v n =
  obind (law04_num_v n 1) fun y0 =>
  obind (fact_Own_v n (ByteArray.mk #[97]) (ByteArray.mk #[112]) false ([[DV.val (Value.bool y0.fst.fst), DV.val (Value.int IntKind.i64 y0.fst.snd.fst), DV.val (Value.string y0.fst.snd.snd.fst)]])) fun y1 =>
  obind (law04_num_v n 2) fun y2 =>
  obind (fact_Own_v n (ByteArray.mk #[97]) (ByteArray.mk #[112]) false ([[DV.val (Value.bool y2.fst.fst), DV.val (Value.int IntKind.i64 y2.fst.snd.fst), DV.val (Value.string y2.fst.snd.snd.fst)]])) fun y3 =>
  obind (fact_Sorted_v n false ([[DV.val (Value.string y3.fst.fst), DV.val (Value.string y3.fst.snd.fst), DV.val (Value.string y3.fst.snd.snd.fst), DV.sl y3.fst.snd.snd.snd.fst.fst [Kd.b, Kd.i IntKind.i64, Kd.s] y3.fst.snd.snd.snd.fst.snd], [DV.val (Value.string y1.fst.fst), DV.val (Value.string y1.fst.snd.fst), DV.val (Value.string y1.fst.snd.snd.fst), DV.sl y1.fst.snd.snd.snd.fst.fst [Kd.b, Kd.i IntKind.i64, Kd.s] y1.fst.snd.snd.snd.fst.snd], [DV.val (Value.string y3.fst.fst), DV.val (Value.string y3.fst.snd.fst), DV.val (Value.string y3.fst.snd.snd.fst), DV.sl y3.fst.snd.snd.snd.fst.fst [Kd.b, Kd.i IntKind.i64, Kd.s] y3.fst.snd.snd.snd.fst.snd]])) fun y4 =>
  obind (law04_num_v n 5) fun y5 =>
  obind (fact_Compare_v n y5.fst.fst y5.fst.snd.fst y5.fst.snd.snd.fst false 0 (ByteArray.mk #[53])) fun y6 =>
  bif y6.fst == -1 then
    bif (↑(List.length y4.fst.snd) : Int) == 2 then
      if 0 < (↑(List.length y4.fst.snd) : Int) then
        obind (fact_Order_v n (Row.S (List.getD y4.fst.snd 0 []) 0) (Row.S (List.getD y4.fst.snd 0 []) 1) (Row.S (List.getD y4.fst.snd 0 []) 2) (Row.N (List.getD y4.fst.snd 0 []) 3) (Row.R (List.getD y4.fst.snd 0 []) 3) y1.fst.fst y1.fst.snd.fst y1.fst.snd.snd.fst y1.fst.snd.snd.snd.fst.fst y1.fst.snd.snd.snd.fst.snd) fun y7 =>
        bif y7.fst == 0 then
          bif y1.fst.fst == ByteArray.mk #[97] then
            bif y1.fst.snd.fst == ByteArray.mk #[97] then
              obind (law04_num_v n 5) fun y8 =>
              obind (fact_Good_v n y8.fst.fst y8.fst.snd.fst y8.fst.snd.snd.fst) fun y9 =>
              some (y9.fst, ())
            else some (false, ())
          else some (false, ())
        else some (false, ())
      else none
    else some (false, ())
  else some (false, ()) := by kernel_rfl
theorem law04_live_c (n : Nat) (y : Bool × Unit) (h : law04_live_v n = some y) : Contract Try.prog 19 [] [] (OSh.enc (OSh.plain (.b) []) y) :=
  auto_okM tm_std (with_ok mixed (by kernel_rfl) (law04_live_σok n) n 0 [1000067, 1000069]) (with_pick mixed (by kernel_rfl) (law04_live_σok n) n 0 [1000067, 1000069]) mixed Try.func19 (by decide) (o := (OSh.plain (.b) [])) h
/-! law04_FactCompares: function 3 -/
def law04_FactCompares_lv : Live := []
noncomputable def law04_FactCompares_σ (n : Nat) : Spec := (inst 15 [.agg [.b, .i IntKind.i64, .s]] [] (OSh.plain (.b) []) (fun x e => fact_Good_v n x.1.1 x.1.2.1 x.1.2.2.1) (inst 16 [.agg [.b, .i IntKind.i64, .s]] [] (OSh.plain (.b) []) (fun x e => ref04_Good_v n x.1.1 x.1.2.1 x.1.2.2.1) (inst 17 [.agg [.b, .i IntKind.i64, .s], .agg [.b, .i IntKind.i64, .s]] [] (OSh.plain (.i IntKind.i64) []) (fun x e => fact_Compare_v n x.1.1 x.1.2.1 x.1.2.2.1 x.2.1.1 x.2.1.2.1 x.2.1.2.2.1) (inst 18 [.agg [.b, .i IntKind.i64, .s], .agg [.b, .i IntKind.i64, .s]] [] (OSh.plain (.i IntKind.i64) []) (fun x e => ref04_Compare_v n x.1.1 x.1.2.1 x.1.2.2.1 x.2.1.1 x.2.1.2.1 x.2.1.2.2.1) (inst 19 [] [] (OSh.plain (.b) []) (fun x e => law04_live_v n) Spec.none)))))
theorem law04_FactCompares_σok (n : Nat) : SpecOk Try.prog (law04_FactCompares_σ n) := (inst_ok (fun x e y h => fact_Good_c n x.1.1 x.1.2.1 x.1.2.2.1 y h) (inst_ok (fun x e y h => ref04_Good_c n x.1.1 x.1.2.1 x.1.2.2.1 y h) (inst_ok (fun x e y h => fact_Compare_c n x.1.1 x.1.2.1 x.1.2.2.1 x.2.1.1 x.2.1.2.1 x.2.1.2.2.1 y h) (inst_ok (fun x e y h => ref04_Compare_c n x.1.1 x.1.2.1 x.1.2.2.1 x.2.1.1 x.2.1.2.1 x.2.1.2.2.1 y h) (inst_ok (fun x e y h => law04_live_c n y h) (SpecOk.none _))))))
noncomputable def law04_FactCompares_Φ (n : Nat) : Orc := with_ Try.prog (law04_FactCompares_σ n) [] n 0 [1000067, 1000069]
noncomputable def law04_FactCompares_v (n : Nat) (b0 : Bool) (j1 : Int) (s2 : ByteArray) (b3 : Bool) (j4 : Int) (s5 : ByteArray) : Option (Bool × Unit) :=
  DM.denFn tm (law04_FactCompares_Φ n) law04_FactCompares_lv n Try.f3 false [AV.agg [AV.dv (DV.val (Value.bool b0)), AV.dv (DV.val (Value.int IntKind.i64 j1)), AV.dv (DV.val (Value.string s2))], AV.agg [AV.dv (DV.val (Value.bool b3)), AV.dv (DV.val (Value.int IntKind.i64 j4)), AV.dv (DV.val (Value.string s5))]] [] (OSh.chk (OSh.plain (.b) []))
theorem law04_FactCompares_e (n : Nat) (b0 : Bool) (j1 : Int) (s2 : ByteArray) (b3 : Bool) (j4 : Int) (s5 : ByteArray) : law04_FactCompares_v n b0 j1 s2 b3 j4 s5 =
  obind (fact_Good_v n b0 j1 s2) fun y6 =>
  obind (ref04_Good_v n b0 j1 s2) fun y7 =>
  bif y6.fst == y7.fst then
    obind (fact_Compare_v n b0 j1 s2 b3 j4 s5) fun y8 =>
    obind (ref04_Compare_v n b0 j1 s2 b3 j4 s5) fun y9 =>
    bif y8.fst == y9.fst then
      obind (fact_Compare_v n b3 j4 s5 b0 j1 s2) fun y10 =>
      obind (ref04_Compare_v n b3 j4 s5 b0 j1 s2) fun y11 =>
      bif y10.fst == y11.fst then
        obind (law04_live_v n) fun y12 =>
        some (y12.fst, ())
      else some (false, ())
    else some (false, ())
  else some (false, ()) := by kernel_rfl
theorem law04_FactCompares_c (n : Nat) (b0 : Bool) (j1 : Int) (s2 : ByteArray) (b3 : Bool) (j4 : Int) (s5 : ByteArray) (y : Bool × Unit) (h : law04_FactCompares_v n b0 j1 s2 b3 j4 s5 = some y) : Contract Try.prog 3 [AV.agg [AV.dv (DV.val (Value.bool b0)), AV.dv (DV.val (Value.int IntKind.i64 j1)), AV.dv (DV.val (Value.string s2))], AV.agg [AV.dv (DV.val (Value.bool b3)), AV.dv (DV.val (Value.int IntKind.i64 j4)), AV.dv (DV.val (Value.string s5))]] [] (OSh.enc (OSh.plain (.b) []) y) :=
  auto_okM tm_std (with_ok mixed (by kernel_rfl) (law04_FactCompares_σok n) n 0 [1000067, 1000069]) (with_pick mixed (by kernel_rfl) (law04_FactCompares_σok n) n 0 [1000067, 1000069]) mixed Try.func3 (by decide) (o := (OSh.plain (.b) [])) h
/-! fact_Check: function 30 -/
def fact_Check_lv : Live := [(4, [28, 29, 30], [1000, 1001, 1002, 1003])]
noncomputable def fact_Check_σ (n : Nat) : Spec := (inst 58 [.s] [] (OSh.plain (.b) []) (fun x e => fact_text_v n x.1) (inst 15 [.agg [.b, .i IntKind.i64, .s]] [] (OSh.plain (.b) []) (fun x e => fact_Good_v n x.1.1 x.1.2.1 x.1.2.2.1) Spec.none))
theorem fact_Check_σok (n : Nat) : SpecOk Try.prog (fact_Check_σ n) := (inst_ok (fun x e y h => fact_text_c n x.1 y h) (inst_ok (fun x e y h => fact_Good_c n x.1.1 x.1.2.1 x.1.2.2.1 y h) (SpecOk.none _)))
noncomputable def fact_Check_Φ (n : Nat) : Orc := with_ Try.prog (fact_Check_σ n) [] n 0 [1000067, 1000069]
noncomputable def fact_Check_v (n : Nat) (s0 : ByteArray) (s1 : ByteArray) (s2 : ByteArray) (b3 : Bool) (r4 : Rows) : Option (Int × Unit) :=
  DM.denFn tm (fact_Check_Φ n) fact_Check_lv n Try.f30 false [AV.agg [AV.dv (DV.val (Value.string s0)), AV.dv (DV.val (Value.string s1)), AV.dv (DV.val (Value.string s2)), AV.sl b3 [Kd.b, Kd.i IntKind.i64, Kd.s] r4 Right.no]] [] (OSh.chk (OSh.plain (.i IntKind.i64) []))
noncomputable def fact_Check_l4 (n : Nat) (s0 : ByteArray) (s1 : ByteArray) (s2 : ByteArray) (b3 : Bool) (r4 : Rows) (i0 : Nat) (j9 : Int) : Option (Int × Unit) :=
  DM.loopFn tm (fact_Check_Φ n) fact_Check_lv n Try.f30 false [] (OSh.chk (OSh.plain (.i IntKind.i64) [])) 4 [] i0 (St.mk [AV.junk, AV.junk, AV.junk, AV.junk, AV.junk, AV.junk, AV.junk, AV.junk, AV.junk, AV.junk, AV.junk, AV.junk, AV.junk, AV.junk, AV.junk, AV.junk, AV.junk, AV.junk, AV.junk, AV.junk, AV.junk, AV.junk, AV.junk, AV.junk, AV.junk, AV.junk, AV.junk, AV.junk, AV.sl b3 [Kd.b, Kd.i IntKind.i64, Kd.s] r4 Right.no, AV.dv (DV.val (Value.int IntKind.i64 (↑(List.length r4) : Int))), AV.dv (DV.val (Value.int IntKind.i64 j9)), AV.junk, AV.junk, AV.junk, AV.junk, AV.junk, AV.junk, AV.junk] [])
theorem fact_Check_s4 (n : Nat) (s0 : ByteArray) (s1 : ByteArray) (s2 : ByteArray) (b3 : Bool) (r4 : Rows) (i0 : Nat) (j9 : Int) : fact_Check_l4 n s0 s1 s2 b3 r4 (i0 + 1) j9 =
  bif decide (j9 < (↑(List.length r4) : Int)) then
    if 0 ≤ j9 then
      if j9 < (↑(List.length r4) : Int) then
        obind (fact_Good_v n (Row.B (List.getD r4 (Int.toNat j9) []) 0) (Row.I (List.getD r4 (Int.toNat j9) []) 1) (Row.S (List.getD r4 (Int.toNat j9) []) 2)) fun y10 =>
        bif !y10.fst then
          some (40, ())
        else fact_Check_l4 n s0 s1 s2 b3 r4 i0 (IntKind.wrap IntKind.i64 (j9 + 1))
      else none
    else none
  else some (0, ()) := by kernel_rfl
theorem fact_Check_e (n : Nat) (s0 : ByteArray) (s1 : ByteArray) (s2 : ByteArray) (b3 : Bool) (r4 : Rows) : fact_Check_v n s0 s1 s2 b3 r4 =
  obind (fact_text_v n s0) fun y5 =>
  bif !y5.fst then
    some (40, ())
  else obind (fact_text_v n s1) fun y6 =>
  bif !y6.fst then
    some (40, ())
  else obind (fact_text_v n s2) fun y7 =>
  bif !y7.fst then
    some (40, ())
  else bif decide ((↑(List.length r4) : Int) > 48) then
    some (40, ())
  else fact_Check_l4 n s0 s1 s2 b3 r4 n 0 := by kernel_rfl
theorem fact_Check_c (n : Nat) (s0 : ByteArray) (s1 : ByteArray) (s2 : ByteArray) (b3 : Bool) (r4 : Rows) (y : Int × Unit) (h : fact_Check_v n s0 s1 s2 b3 r4 = some y) : Contract Try.prog 30 [AV.agg [AV.dv (DV.val (Value.string s0)), AV.dv (DV.val (Value.string s1)), AV.dv (DV.val (Value.string s2)), AV.sl b3 [Kd.b, Kd.i IntKind.i64, Kd.s] r4 Right.no]] [] (OSh.enc (OSh.plain (.i IntKind.i64) []) y) :=
  auto_okM tm_std (with_ok mixed (by kernel_rfl) (fact_Check_σok n) n 0 [1000067, 1000069]) (with_pick mixed (by kernel_rfl) (fact_Check_σok n) n 0 [1000067, 1000069]) mixed Try.func30 (by decide) (o := (OSh.plain (.i IntKind.i64) [])) h
/-! ref04_Check: function 31 -/
def ref04_Check_lv : Live := [(4, [1, 3], [1, 1000, 1001, 1002, 1003])]
noncomputable def ref04_Check_σ (n : Nat) : Spec := (inst 59 [.s] [] (OSh.plain (.b) []) (fun x e => ref04_Text_v n x.1) (inst 16 [.agg [.b, .i IntKind.i64, .s]] [] (OSh.plain (.b) []) (fun x e => ref04_Good_v n x.1.1 x.1.2.1 x.1.2.2.1) Spec.none))
theorem ref04_Check_σok (n : Nat) : SpecOk Try.prog (ref04_Check_σ n) := (inst_ok (fun x e y h => ref04_Text_c n x.1 y h) (inst_ok (fun x e y h => ref04_Good_c n x.1.1 x.1.2.1 x.1.2.2.1 y h) (SpecOk.none _)))
noncomputable def ref04_Check_Φ (n : Nat) : Orc := with_ Try.prog (ref04_Check_σ n) [] n 0 [1000067, 1000069]
noncomputable def ref04_Check_v (n : Nat) (s0 : ByteArray) (s1 : ByteArray) (s2 : ByteArray) (b3 : Bool) (r4 : Rows) : Option (Int × Unit) :=
  DM.denFn tm (ref04_Check_Φ n) ref04_Check_lv n Try.f31 false [AV.agg [AV.dv (DV.val (Value.string s0)), AV.dv (DV.val (Value.string s1)), AV.dv (DV.val (Value.string s2)), AV.sl b3 [Kd.b, Kd.i IntKind.i64, Kd.s] r4 Right.no]] [] (OSh.chk (OSh.plain (.i IntKind.i64) []))
noncomputable def ref04_Check_l4 (n : Nat) (s0 : ByteArray) (s1 : ByteArray) (s2 : ByteArray) (b3 : Bool) (r4 : Rows) (i0 : Nat) (j9 : Int) : Option (Int × Unit) :=
  DM.loopFn tm (ref04_Check_Φ n) ref04_Check_lv n Try.f31 false [] (OSh.chk (OSh.plain (.i IntKind.i64) [])) 4 [] i0 (St.mk [AV.junk, AV.pl 1 0, AV.junk, AV.dv (DV.val (Value.int IntKind.i64 j9)), AV.junk, AV.junk, AV.junk, AV.junk, AV.junk, AV.junk, AV.junk, AV.junk, AV.junk, AV.junk, AV.junk, AV.junk, AV.junk, AV.junk, AV.junk, AV.junk, AV.junk, AV.junk, AV.junk, AV.junk, AV.junk, AV.junk, AV.junk, AV.junk, AV.junk, AV.junk, AV.junk, AV.junk, AV.junk, AV.junk, AV.junk, AV.junk, AV.junk, AV.junk, AV.junk, AV.junk] [(1, [AV.dv (DV.val (Value.string s0)), AV.dv (DV.val (Value.string s1)), AV.dv (DV.val (Value.string s2)), AV.sl b3 [Kd.b, Kd.i IntKind.i64, Kd.s] r4 Right.no])])
theorem ref04_Check_s4 (n : Nat) (s0 : ByteArray) (s1 : ByteArray) (s2 : ByteArray) (b3 : Bool) (r4 : Rows) (i0 : Nat) (j9 : Int) : ref04_Check_l4 n s0 s1 s2 b3 r4 (i0 + 1) j9 =
  bif decide (j9 < (↑(List.length r4) : Int)) then
    if 0 ≤ j9 then
      if j9 < (↑(List.length r4) : Int) then
        obind (ref04_Good_v n (Row.B (List.getD r4 (Int.toNat j9) []) 0) (Row.I (List.getD r4 (Int.toNat j9) []) 1) (Row.S (List.getD r4 (Int.toNat j9) []) 2)) fun y10 =>
        bif !y10.fst then
          some (40, ())
        else ref04_Check_l4 n s0 s1 s2 b3 r4 i0 (IntKind.wrap IntKind.i64 (j9 + 1))
      else none
    else none
  else some (0, ()) := by kernel_rfl
theorem ref04_Check_e (n : Nat) (s0 : ByteArray) (s1 : ByteArray) (s2 : ByteArray) (b3 : Bool) (r4 : Rows) : ref04_Check_v n s0 s1 s2 b3 r4 =
  obind (ref04_Text_v n s0) fun y5 =>
  bif !y5.fst then
    some (40, ())
  else obind (ref04_Text_v n s1) fun y6 =>
  bif !y6.fst then
    some (40, ())
  else obind (ref04_Text_v n s2) fun y7 =>
  bif !y7.fst then
    some (40, ())
  else bif decide ((↑(List.length r4) : Int) > 48) then
    some (40, ())
  else ref04_Check_l4 n s0 s1 s2 b3 r4 n 0 := by kernel_rfl
theorem ref04_Check_c (n : Nat) (s0 : ByteArray) (s1 : ByteArray) (s2 : ByteArray) (b3 : Bool) (r4 : Rows) (y : Int × Unit) (h : ref04_Check_v n s0 s1 s2 b3 r4 = some y) : Contract Try.prog 31 [AV.agg [AV.dv (DV.val (Value.string s0)), AV.dv (DV.val (Value.string s1)), AV.dv (DV.val (Value.string s2)), AV.sl b3 [Kd.b, Kd.i IntKind.i64, Kd.s] r4 Right.no]] [] (OSh.enc (OSh.plain (.i IntKind.i64) []) y) :=
  auto_okM tm_std (with_ok mixed (by kernel_rfl) (ref04_Check_σok n) n 0 [1000067, 1000069]) (with_pick mixed (by kernel_rfl) (ref04_Check_σok n) n 0 [1000067, 1000069]) mixed Try.func31 (by decide) (o := (OSh.plain (.i IntKind.i64) [])) h
/-! ref04_Order: function 29 -/
def ref04_Order_lv : Live := [(8, [2, 3, 5], [2, 3, 1000, 1001, 1002, 1003])]
noncomputable def ref04_Order_σ (n : Nat) : Spec := (inst 63 [.s, .s] [] (OSh.plain (.i IntKind.i64) []) (fun x e => ref04_texts_v n x.1 x.2.1) (inst 18 [.agg [.b, .i IntKind.i64, .s], .agg [.b, .i IntKind.i64, .s]] [] (OSh.plain (.i IntKind.i64) []) (fun x e => ref04_Compare_v n x.1.1 x.1.2.1 x.1.2.2.1 x.2.1.1 x.2.1.2.1 x.2.1.2.2.1) Spec.none))
theorem ref04_Order_σok (n : Nat) : SpecOk Try.prog (ref04_Order_σ n) := (inst_ok (fun x e y h => ref04_texts_c n x.1 x.2.1 y h) (inst_ok (fun x e y h => ref04_Compare_c n x.1.1 x.1.2.1 x.1.2.2.1 x.2.1.1 x.2.1.2.1 x.2.1.2.2.1 y h) (SpecOk.none _)))
noncomputable def ref04_Order_Φ (n : Nat) : Orc := with_ Try.prog (ref04_Order_σ n) [] n 0 [1000067, 1000069]
noncomputable def ref04_Order_v (n : Nat) (s0 : ByteArray) (s1 : ByteArray) (s2 : ByteArray) (b3 : Bool) (r4 : Rows) (s5 : ByteArray) (s6 : ByteArray) (s7 : ByteArray) (b8 : Bool) (r9 : Rows) : Option (Int × Unit) :=
  DM.denFn tm (ref04_Order_Φ n) ref04_Order_lv n Try.f29 false [AV.agg [AV.dv (DV.val (Value.string s0)), AV.dv (DV.val (Value.string s1)), AV.dv (DV.val (Value.string s2)), AV.sl b3 [Kd.b, Kd.i IntKind.i64, Kd.s] r4 Right.no], AV.agg [AV.dv (DV.val (Value.string s5)), AV.dv (DV.val (Value.string s6)), AV.dv (DV.val (Value.string s7)), AV.sl b8 [Kd.b, Kd.i IntKind.i64, Kd.s] r9 Right.no]] [] (OSh.chk (OSh.plain (.i IntKind.i64) []))
noncomputable def ref04_Order_l8 (n : Nat) (s0 : ByteArray) (s1 : ByteArray) (s2 : ByteArray) (b3 : Bool) (r4 : Rows) (s5 : ByteArray) (s6 : ByteArray) (s7 : ByteArray) (b8 : Bool) (r9 : Rows) (i0 : Nat) (j14 : Int) : Option (Int × Unit) :=
  DM.loopFn tm (ref04_Order_Φ n) ref04_Order_lv n Try.f29 false [] (OSh.chk (OSh.plain (.i IntKind.i64) [])) 8 [] i0 (St.mk [AV.junk, AV.junk, AV.pl 2 0, AV.pl 3 0, AV.junk, AV.dv (DV.val (Value.int IntKind.i64 j14)), AV.junk, AV.junk, AV.junk, AV.junk, AV.junk, AV.junk, AV.junk, AV.junk, AV.junk, AV.junk, AV.junk, AV.junk, AV.junk, AV.junk, AV.junk, AV.junk, AV.junk, AV.junk, AV.junk, AV.junk, AV.junk, AV.junk, AV.junk, AV.junk, AV.junk, AV.junk, AV.junk, AV.junk, AV.junk, AV.junk, AV.junk, AV.junk, AV.junk, AV.junk, AV.junk, AV.junk, AV.junk, AV.junk, AV.junk, AV.junk, AV.junk, AV.junk, AV.junk, AV.junk, AV.junk, AV.junk, AV.junk, AV.junk, AV.junk, AV.junk, AV.junk, AV.junk, AV.junk, AV.junk, AV.junk, AV.junk, AV.junk, AV.junk, AV.junk, AV.junk, AV.junk, AV.junk, AV.junk, AV.junk, AV.junk, AV.junk, AV.junk, AV.junk, AV.junk, AV.junk, AV.junk, AV.junk, AV.junk] [(2, [AV.dv (DV.val (Value.string s0)), AV.dv (DV.val (Value.string s1)), AV.dv (DV.val (Value.string s2)), AV.sl b3 [Kd.b, Kd.i IntKind.i64, Kd.s] r4 Right.no]), (3, [AV.dv (DV.val (Value.string s5)), AV.dv (DV.val (Value.string s6)), AV.dv (DV.val (Value.string s7)), AV.sl b8 [Kd.b, Kd.i IntKind.i64, Kd.s] r9 Right.no])])
theorem ref04_Order_s8 (n : Nat) (s0 : ByteArray) (s1 : ByteArray) (s2 : ByteArray) (b3 : Bool) (r4 : Rows) (s5 : ByteArray) (s6 : ByteArray) (s7 : ByteArray) (b8 : Bool) (r9 : Rows) (i0 : Nat) (j14 : Int) : ref04_Order_l8 n s0 s1 s2 b3 r4 s5 s6 s7 b8 r9 (i0 + 1) j14 =
  bif decide (j14 < (↑(List.length r4) : Int)) then
    bif decide (j14 < (↑(List.length r9) : Int)) then
      if 0 ≤ j14 then
        if j14 < (↑(List.length r4) : Int) then
          if 0 ≤ j14 then
            if j14 < (↑(List.length r9) : Int) then
              obind (ref04_Compare_v n (Row.B (List.getD r4 (Int.toNat j14) []) 0) (Row.I (List.getD r4 (Int.toNat j14) []) 1) (Row.S (List.getD r4 (Int.toNat j14) []) 2) (Row.B (List.getD r9 (Int.toNat j14) []) 0) (Row.I (List.getD r9 (Int.toNat j14) []) 1) (Row.S (List.getD r9 (Int.toNat j14) []) 2)) fun y15 =>
              bif y15.fst != 0 then
                some (y15.fst, ())
              else ref04_Order_l8 n s0 s1 s2 b3 r4 s5 s6 s7 b8 r9 i0 (IntKind.wrap IntKind.i64 (j14 + 1))
            else none
          else none
        else none
      else none
    else bif decide ((↑(List.length r4) : Int) < (↑(List.length r9) : Int)) then
      some (-1, ())
    else bif decide ((↑(List.length r4) : Int) > (↑(List.length r9) : Int)) then
      some (1, ())
    else some (0, ())
  else bif decide ((↑(List.length r4) : Int) < (↑(List.length r9) : Int)) then
    some (-1, ())
  else bif decide ((↑(List.length r4) : Int) > (↑(List.length r9) : Int)) then
    some (1, ())
  else some (0, ()) := by kernel_rfl
theorem ref04_Order_e (n : Nat) (s0 : ByteArray) (s1 : ByteArray) (s2 : ByteArray) (b3 : Bool) (r4 : Rows) (s5 : ByteArray) (s6 : ByteArray) (s7 : ByteArray) (b8 : Bool) (r9 : Rows) : ref04_Order_v n s0 s1 s2 b3 r4 s5 s6 s7 b8 r9 =
  bif !s0 == s5 then
    obind (ref04_texts_v n s0 s5) fun y10 =>
    some (y10.fst, ())
  else bif !s1 == s6 then
    obind (ref04_texts_v n s1 s6) fun y11 =>
    some (y11.fst, ())
  else bif !s2 == s7 then
    obind (ref04_texts_v n s2 s7) fun y12 =>
    some (y12.fst, ())
  else ref04_Order_l8 n s0 s1 s2 b3 r4 s5 s6 s7 b8 r9 n 0 := by kernel_rfl
theorem ref04_Order_c (n : Nat) (s0 : ByteArray) (s1 : ByteArray) (s2 : ByteArray) (b3 : Bool) (r4 : Rows) (s5 : ByteArray) (s6 : ByteArray) (s7 : ByteArray) (b8 : Bool) (r9 : Rows) (y : Int × Unit) (h : ref04_Order_v n s0 s1 s2 b3 r4 s5 s6 s7 b8 r9 = some y) : Contract Try.prog 29 [AV.agg [AV.dv (DV.val (Value.string s0)), AV.dv (DV.val (Value.string s1)), AV.dv (DV.val (Value.string s2)), AV.sl b3 [Kd.b, Kd.i IntKind.i64, Kd.s] r4 Right.no], AV.agg [AV.dv (DV.val (Value.string s5)), AV.dv (DV.val (Value.string s6)), AV.dv (DV.val (Value.string s7)), AV.sl b8 [Kd.b, Kd.i IntKind.i64, Kd.s] r9 Right.no]] [] (OSh.enc (OSh.plain (.i IntKind.i64) []) y) :=
  auto_okM tm_std (with_ok mixed (by kernel_rfl) (ref04_Order_σok n) n 0 [1000067, 1000069]) (with_pick mixed (by kernel_rfl) (ref04_Order_σok n) n 0 [1000067, 1000069]) mixed Try.func29 (by decide) (o := (OSh.plain (.i IntKind.i64) [])) h
/-! law04_FactChecks: function 7 -/
def law04_FactChecks_lv : Live := []
noncomputable def law04_FactChecks_σ (n : Nat) : Spec := (inst 30 [.agg [.s, .s, .s, .sl [Kd.b, Kd.i IntKind.i64, Kd.s]]] [] (OSh.plain (.i IntKind.i64) []) (fun x e => fact_Check_v n x.1.1 x.1.2.1 x.1.2.2.1 x.1.2.2.2.1.1 x.1.2.2.2.1.2) (inst 31 [.agg [.s, .s, .s, .sl [Kd.b, Kd.i IntKind.i64, Kd.s]]] [] (OSh.plain (.i IntKind.i64) []) (fun x e => ref04_Check_v n x.1.1 x.1.2.1 x.1.2.2.1 x.1.2.2.2.1.1 x.1.2.2.2.1.2) (inst 20 [.agg [.s, .s, .s, .sl [Kd.b, Kd.i IntKind.i64, Kd.s]], .agg [.s, .s, .s, .sl [Kd.b, Kd.i IntKind.i64, Kd.s]]] [] (OSh.plain (.i IntKind.i64) []) (fun x e => fact_Order_v n x.1.1 x.1.2.1 x.1.2.2.1 x.1.2.2.2.1.1 x.1.2.2.2.1.2 x.2.1.1 x.2.1.2.1 x.2.1.2.2.1 x.2.1.2.2.2.1.1 x.2.1.2.2.2.1.2) (inst 29 [.agg [.s, .s, .s, .sl [Kd.b, Kd.i IntKind.i64, Kd.s]], .agg [.s, .s, .s, .sl [Kd.b, Kd.i IntKind.i64, Kd.s]]] [] (OSh.plain (.i IntKind.i64) []) (fun x e => ref04_Order_v n x.1.1 x.1.2.1 x.1.2.2.1 x.1.2.2.2.1.1 x.1.2.2.2.1.2 x.2.1.1 x.2.1.2.1 x.2.1.2.2.1 x.2.1.2.2.2.1.1 x.2.1.2.2.2.1.2) (inst 19 [] [] (OSh.plain (.b) []) (fun x e => law04_live_v n) Spec.none)))))
theorem law04_FactChecks_σok (n : Nat) : SpecOk Try.prog (law04_FactChecks_σ n) := (inst_ok (fun x e y h => fact_Check_c n x.1.1 x.1.2.1 x.1.2.2.1 x.1.2.2.2.1.1 x.1.2.2.2.1.2 y h) (inst_ok (fun x e y h => ref04_Check_c n x.1.1 x.1.2.1 x.1.2.2.1 x.1.2.2.2.1.1 x.1.2.2.2.1.2 y h) (inst_ok (fun x e y h => fact_Order_c n x.1.1 x.1.2.1 x.1.2.2.1 x.1.2.2.2.1.1 x.1.2.2.2.1.2 x.2.1.1 x.2.1.2.1 x.2.1.2.2.1 x.2.1.2.2.2.1.1 x.2.1.2.2.2.1.2 y h) (inst_ok (fun x e y h => ref04_Order_c n x.1.1 x.1.2.1 x.1.2.2.1 x.1.2.2.2.1.1 x.1.2.2.2.1.2 x.2.1.1 x.2.1.2.1 x.2.1.2.2.1 x.2.1.2.2.2.1.1 x.2.1.2.2.2.1.2 y h) (inst_ok (fun x e y h => law04_live_c n y h) (SpecOk.none _))))))
noncomputable def law04_FactChecks_Φ (n : Nat) : Orc := with_ Try.prog (law04_FactChecks_σ n) [] n 0 [1000067, 1000069]
noncomputable def law04_FactChecks_v (n : Nat) (s0 : ByteArray) (s1 : ByteArray) (s2 : ByteArray) (b3 : Bool) (r4 : Rows) (s5 : ByteArray) (s6 : ByteArray) (s7 : ByteArray) (b8 : Bool) (r9 : Rows) : Option (Bool × Unit) :=
  DM.denFn tm (law04_FactChecks_Φ n) law04_FactChecks_lv n Try.f7 false [AV.agg [AV.dv (DV.val (Value.string s0)), AV.dv (DV.val (Value.string s1)), AV.dv (DV.val (Value.string s2)), AV.sl b3 [Kd.b, Kd.i IntKind.i64, Kd.s] r4 Right.no], AV.agg [AV.dv (DV.val (Value.string s5)), AV.dv (DV.val (Value.string s6)), AV.dv (DV.val (Value.string s7)), AV.sl b8 [Kd.b, Kd.i IntKind.i64, Kd.s] r9 Right.no]] [] (OSh.chk (OSh.plain (.b) []))
theorem law04_FactChecks_e (n : Nat) (s0 : ByteArray) (s1 : ByteArray) (s2 : ByteArray) (b3 : Bool) (r4 : Rows) (s5 : ByteArray) (s6 : ByteArray) (s7 : ByteArray) (b8 : Bool) (r9 : Rows) : law04_FactChecks_v n s0 s1 s2 b3 r4 s5 s6 s7 b8 r9 =
  obind (fact_Check_v n s0 s1 s2 b3 r4) fun y10 =>
  obind (ref04_Check_v n s0 s1 s2 b3 r4) fun y11 =>
  bif y10.fst == y11.fst then
    obind (fact_Order_v n s0 s1 s2 b3 r4 s5 s6 s7 b8 r9) fun y12 =>
    obind (ref04_Order_v n s0 s1 s2 b3 r4 s5 s6 s7 b8 r9) fun y13 =>
    bif y12.fst == y13.fst then
      obind (fact_Order_v n s5 s6 s7 b8 r9 s0 s1 s2 b3 r4) fun y14 =>
      obind (ref04_Order_v n s5 s6 s7 b8 r9 s0 s1 s2 b3 r4) fun y15 =>
      bif y14.fst == y15.fst then
        obind (law04_live_v n) fun y16 =>
        some (y16.fst, ())
      else some (false, ())
    else some (false, ())
  else some (false, ()) := by kernel_rfl
theorem law04_FactChecks_c (n : Nat) (s0 : ByteArray) (s1 : ByteArray) (s2 : ByteArray) (b3 : Bool) (r4 : Rows) (s5 : ByteArray) (s6 : ByteArray) (s7 : ByteArray) (b8 : Bool) (r9 : Rows) (y : Bool × Unit) (h : law04_FactChecks_v n s0 s1 s2 b3 r4 s5 s6 s7 b8 r9 = some y) : Contract Try.prog 7 [AV.agg [AV.dv (DV.val (Value.string s0)), AV.dv (DV.val (Value.string s1)), AV.dv (DV.val (Value.string s2)), AV.sl b3 [Kd.b, Kd.i IntKind.i64, Kd.s] r4 Right.no], AV.agg [AV.dv (DV.val (Value.string s5)), AV.dv (DV.val (Value.string s6)), AV.dv (DV.val (Value.string s7)), AV.sl b8 [Kd.b, Kd.i IntKind.i64, Kd.s] r9 Right.no]] [] (OSh.enc (OSh.plain (.b) []) y) :=
  auto_okM tm_std (with_ok mixed (by kernel_rfl) (law04_FactChecks_σok n) n 0 [1000067, 1000069]) (with_pick mixed (by kernel_rfl) (law04_FactChecks_σok n) n 0 [1000067, 1000069]) mixed Try.func7 (by decide) (o := (OSh.plain (.b) [])) h
/-! law04_FactOrders: function 4 -/
def law04_FactOrders_lv : Live := [(5, [3, 4, 7, 8], [3, 4, 1000, 1001, 1002, 1003])]
noncomputable def law04_FactOrders_σ (n : Nat) : Spec := (inst 20 [.agg [.s, .s, .s, .sl [Kd.b, Kd.i IntKind.i64, Kd.s]], .agg [.s, .s, .s, .sl [Kd.b, Kd.i IntKind.i64, Kd.s]]] [] (OSh.plain (.i IntKind.i64) []) (fun x e => fact_Order_v n x.1.1 x.1.2.1 x.1.2.2.1 x.1.2.2.2.1.1 x.1.2.2.2.1.2 x.2.1.1 x.2.1.2.1 x.2.1.2.2.1 x.2.1.2.2.2.1.1 x.2.1.2.2.2.1.2) (inst 19 [] [] (OSh.plain (.b) []) (fun x e => law04_live_v n) Spec.none))
theorem law04_FactOrders_σok (n : Nat) : SpecOk Try.prog (law04_FactOrders_σ n) := (inst_ok (fun x e y h => fact_Order_c n x.1.1 x.1.2.1 x.1.2.2.1 x.1.2.2.2.1.1 x.1.2.2.2.1.2 x.2.1.1 x.2.1.2.1 x.2.1.2.2.1 x.2.1.2.2.2.1.1 x.2.1.2.2.2.1.2 y h) (inst_ok (fun x e y h => law04_live_c n y h) (SpecOk.none _)))
noncomputable def law04_FactOrders_Φ (n : Nat) : Orc := with_ Try.prog (law04_FactOrders_σ n) [] n 0 [1000067, 1000069]
noncomputable def law04_FactOrders_v (n : Nat) (s0 : ByteArray) (s1 : ByteArray) (s2 : ByteArray) (b3 : Bool) (r4 : Rows) (s5 : ByteArray) (s6 : ByteArray) (s7 : ByteArray) (b8 : Bool) (r9 : Rows) (s10 : ByteArray) (s11 : ByteArray) (s12 : ByteArray) (b13 : Bool) (r14 : Rows) : Option (Bool × Unit) :=
  DM.denFn tm (law04_FactOrders_Φ n) law04_FactOrders_lv n Try.f4 false [AV.agg [AV.dv (DV.val (Value.string s0)), AV.dv (DV.val (Value.string s1)), AV.dv (DV.val (Value.string s2)), AV.sl b3 [Kd.b, Kd.i IntKind.i64, Kd.s] r4 Right.no], AV.agg [AV.dv (DV.val (Value.string s5)), AV.dv (DV.val (Value.string s6)), AV.dv (DV.val (Value.string s7)), AV.sl b8 [Kd.b, Kd.i IntKind.i64, Kd.s] r9 Right.no], AV.agg [AV.dv (DV.val (Value.string s10)), AV.dv (DV.val (Value.string s11)), AV.dv (DV.val (Value.string s12)), AV.sl b13 [Kd.b, Kd.i IntKind.i64, Kd.s] r14 Right.no]] [] (OSh.chk (OSh.plain (.b) []))
noncomputable def law04_FactOrders_l5 (n : Nat) (s0 : ByteArray) (s1 : ByteArray) (s2 : ByteArray) (b3 : Bool) (r4 : Rows) (s5 : ByteArray) (s6 : ByteArray) (s7 : ByteArray) (b8 : Bool) (r9 : Rows) (s10 : ByteArray) (s11 : ByteArray) (s12 : ByteArray) (b13 : Bool) (r14 : Rows) (i0 : Nat) (b21 : Bool) (j26 : Int) : Option (Bool × Unit) :=
  DM.loopFn tm (law04_FactOrders_Φ n) law04_FactOrders_lv n Try.f4 false [] (OSh.chk (OSh.plain (.b) [])) 5 [] i0 (St.mk [AV.junk, AV.junk, AV.junk, AV.pl 3 0, AV.pl 4 0, AV.junk, AV.junk, AV.dv (DV.val (Value.bool b21)), AV.dv (DV.val (Value.int IntKind.i64 j26)), AV.junk, AV.junk, AV.junk, AV.junk, AV.junk, AV.junk, AV.junk, AV.junk, AV.junk, AV.junk, AV.junk, AV.junk, AV.junk, AV.junk, AV.junk, AV.junk, AV.junk, AV.junk, AV.junk, AV.junk, AV.junk, AV.junk, AV.junk, AV.junk, AV.junk, AV.junk, AV.junk, AV.junk, AV.junk, AV.junk, AV.junk, AV.junk, AV.junk, AV.junk, AV.junk, AV.junk, AV.junk, AV.junk, AV.junk, AV.junk, AV.junk, AV.junk, AV.junk, AV.junk, AV.junk, AV.junk, AV.junk, AV.junk, AV.junk, AV.junk, AV.junk, AV.junk, AV.junk, AV.junk, AV.junk, AV.junk, AV.junk, AV.junk, AV.junk, AV.junk, AV.junk, AV.junk, AV.junk, AV.junk, AV.junk, AV.junk, AV.junk, AV.junk, AV.junk, AV.junk, AV.junk, AV.junk, AV.junk, AV.junk, AV.junk, AV.junk, AV.junk, AV.junk, AV.junk, AV.junk, AV.junk, AV.junk, AV.junk, AV.junk, AV.junk, AV.junk, AV.junk, AV.junk, AV.junk, AV.junk] [(3, [AV.dv (DV.val (Value.string s0)), AV.dv (DV.val (Value.string s1)), AV.dv (DV.val (Value.string s2)), AV.sl b3 [Kd.b, Kd.i IntKind.i64, Kd.s] r4 Right.no]), (4, [AV.dv (DV.val (Value.string s5)), AV.dv (DV.val (Value.string s6)), AV.dv (DV.val (Value.string s7)), AV.sl b8 [Kd.b, Kd.i IntKind.i64, Kd.s] r9 Right.no])])
theorem law04_FactOrders_s5 (n : Nat) (s0 : ByteArray) (s1 : ByteArray) (s2 : ByteArray) (b3 : Bool) (r4 : Rows) (s5 : ByteArray) (s6 : ByteArray) (s7 : ByteArray) (b8 : Bool) (r9 : Rows) (s10 : ByteArray) (s11 : ByteArray) (s12 : ByteArray) (b13 : Bool) (r14 : Rows) (i0 : Nat) (b21 : Bool) (j26 : Int) : law04_FactOrders_l5 n s0 s1 s2 b3 r4 s5 s6 s7 b8 r9 s10 s11 s12 b13 r14 (i0 + 1) b21 j26 =
  bif b21 then
    bif decide (j26 < (↑(List.length r4) : Int)) then
      if 0 ≤ j26 then
        if j26 < (↑(List.length r4) : Int) then
          if 0 ≤ j26 then
            if j26 < (↑(List.length r9) : Int) then
              law04_FactOrders_l5 n s0 s1 s2 b3 r4 s5 s6 s7 b8 r9 s10 s11 s12 b13 r14 i0 (Row.B (List.getD r4 (Int.toNat j26) []) 0 == Row.B (List.getD r9 (Int.toNat j26) []) 0 && (Row.I (List.getD r4 (Int.toNat j26) []) 1 == Row.I (List.getD r9 (Int.toNat j26) []) 1 && (Row.S (List.getD r4 (Int.toNat j26) []) 2 == Row.S (List.getD r9 (Int.toNat j26) []) 2 && true))) (IntKind.wrap IntKind.i64 (j26 + 1))
            else none
          else none
        else none
      else none
    else obind (fact_Order_v n s0 s1 s2 b3 r4 s5 s6 s7 b8 r9) fun y27 =>
    bif (y27.fst == 0) == b21 then
      obind (law04_live_v n) fun y28 =>
      some (y28.fst, ())
    else some (false, ())
  else obind (fact_Order_v n s0 s1 s2 b3 r4 s5 s6 s7 b8 r9) fun y29 =>
  bif (y29.fst == 0) == b21 then
    obind (law04_live_v n) fun y30 =>
    some (y30.fst, ())
  else some (false, ()) := by kernel_rfl
theorem law04_FactOrders_e (n : Nat) (s0 : ByteArray) (s1 : ByteArray) (s2 : ByteArray) (b3 : Bool) (r4 : Rows) (s5 : ByteArray) (s6 : ByteArray) (s7 : ByteArray) (b8 : Bool) (r9 : Rows) (s10 : ByteArray) (s11 : ByteArray) (s12 : ByteArray) (b13 : Bool) (r14 : Rows) : law04_FactOrders_v n s0 s1 s2 b3 r4 s5 s6 s7 b8 r9 s10 s11 s12 b13 r14 =
  obind (fact_Order_v n s0 s1 s2 b3 r4 s5 s6 s7 b8 r9) fun y15 =>
  obind (fact_Order_v n s5 s6 s7 b8 r9 s0 s1 s2 b3 r4) fun y16 =>
  bif y15.fst != IntKind.wrap IntKind.i64 (0 - y16.fst) then
    none
  else obind (fact_Order_v n s0 s1 s2 b3 r4 s0 s1 s2 b3 r4) fun y17 =>
  bif y17.fst != 0 then
    none
  else obind (fact_Order_v n s0 s1 s2 b3 r4 s5 s6 s7 b8 r9) fun y18 =>
  bif decide (y18.fst ≤ 0) then
    obind (fact_Order_v n s5 s6 s7 b8 r9 s10 s11 s12 b13 r14) fun y19 =>
    bif decide (y19.fst ≤ 0) then
      obind (fact_Order_v n s0 s1 s2 b3 r4 s10 s11 s12 b13 r14) fun y20 =>
      bif decide (y20.fst > 0) then
        some (false, ())
      else bif s0 == s5 then
        bif s1 == s6 then
          bif s2 == s7 then
            law04_FactOrders_l5 n s0 s1 s2 b3 r4 s5 s6 s7 b8 r9 s10 s11 s12 b13 r14 n ((↑(List.length r4) : Int) == (↑(List.length r9) : Int)) 0
          else law04_FactOrders_l5 n s0 s1 s2 b3 r4 s5 s6 s7 b8 r9 s10 s11 s12 b13 r14 n false 0
        else law04_FactOrders_l5 n s0 s1 s2 b3 r4 s5 s6 s7 b8 r9 s10 s11 s12 b13 r14 n false 0
      else law04_FactOrders_l5 n s0 s1 s2 b3 r4 s5 s6 s7 b8 r9 s10 s11 s12 b13 r14 n false 0
    else bif s0 == s5 then
      bif s1 == s6 then
        bif s2 == s7 then
          law04_FactOrders_l5 n s0 s1 s2 b3 r4 s5 s6 s7 b8 r9 s10 s11 s12 b13 r14 n ((↑(List.length r4) : Int) == (↑(List.length r9) : Int)) 0
        else law04_FactOrders_l5 n s0 s1 s2 b3 r4 s5 s6 s7 b8 r9 s10 s11 s12 b13 r14 n false 0
      else law04_FactOrders_l5 n s0 s1 s2 b3 r4 s5 s6 s7 b8 r9 s10 s11 s12 b13 r14 n false 0
    else law04_FactOrders_l5 n s0 s1 s2 b3 r4 s5 s6 s7 b8 r9 s10 s11 s12 b13 r14 n false 0
  else bif s0 == s5 then
    bif s1 == s6 then
      bif s2 == s7 then
        law04_FactOrders_l5 n s0 s1 s2 b3 r4 s5 s6 s7 b8 r9 s10 s11 s12 b13 r14 n ((↑(List.length r4) : Int) == (↑(List.length r9) : Int)) 0
      else law04_FactOrders_l5 n s0 s1 s2 b3 r4 s5 s6 s7 b8 r9 s10 s11 s12 b13 r14 n false 0
    else law04_FactOrders_l5 n s0 s1 s2 b3 r4 s5 s6 s7 b8 r9 s10 s11 s12 b13 r14 n false 0
  else law04_FactOrders_l5 n s0 s1 s2 b3 r4 s5 s6 s7 b8 r9 s10 s11 s12 b13 r14 n false 0 := by kernel_rfl
theorem law04_FactOrders_c (n : Nat) (s0 : ByteArray) (s1 : ByteArray) (s2 : ByteArray) (b3 : Bool) (r4 : Rows) (s5 : ByteArray) (s6 : ByteArray) (s7 : ByteArray) (b8 : Bool) (r9 : Rows) (s10 : ByteArray) (s11 : ByteArray) (s12 : ByteArray) (b13 : Bool) (r14 : Rows) (y : Bool × Unit) (h : law04_FactOrders_v n s0 s1 s2 b3 r4 s5 s6 s7 b8 r9 s10 s11 s12 b13 r14 = some y) : Contract Try.prog 4 [AV.agg [AV.dv (DV.val (Value.string s0)), AV.dv (DV.val (Value.string s1)), AV.dv (DV.val (Value.string s2)), AV.sl b3 [Kd.b, Kd.i IntKind.i64, Kd.s] r4 Right.no], AV.agg [AV.dv (DV.val (Value.string s5)), AV.dv (DV.val (Value.string s6)), AV.dv (DV.val (Value.string s7)), AV.sl b8 [Kd.b, Kd.i IntKind.i64, Kd.s] r9 Right.no], AV.agg [AV.dv (DV.val (Value.string s10)), AV.dv (DV.val (Value.string s11)), AV.dv (DV.val (Value.string s12)), AV.sl b13 [Kd.b, Kd.i IntKind.i64, Kd.s] r14 Right.no]] [] (OSh.enc (OSh.plain (.b) []) y) :=
  auto_okM tm_std (with_ok mixed (by kernel_rfl) (law04_FactOrders_σok n) n 0 [1000067, 1000069]) (with_pick mixed (by kernel_rfl) (law04_FactOrders_σok n) n 0 [1000067, 1000069]) mixed Try.func4 (by decide) (o := (OSh.plain (.b) [])) h
/-! ref04_Weight: function 21 -/
def ref04_Weight_lv : Live := [(3, [0, 1, 5, 6], [1000, 1001, 1002, 1003]), (7, [0, 1, 5, 6, 7], [1000, 1001, 1002, 1003])]
noncomputable def ref04_Weight_σ (n : Nat) : Spec := Spec.none
theorem ref04_Weight_σok (n : Nat) : SpecOk Try.prog (ref04_Weight_σ n) := (SpecOk.none _)
noncomputable def ref04_Weight_Φ (n : Nat) : Orc := with_ Try.prog (ref04_Weight_σ n) [] n 0 [1000067, 1000069]
noncomputable def ref04_Weight_v (n : Nat) (b0 : Bool) (r1 : Rows) (j2 : Int) : Option (Int × Unit) :=
  DM.denFn tm (ref04_Weight_Φ n) ref04_Weight_lv n Try.f21 false [AV.sl b0 [Kd.s, Kd.s, Kd.s, Kd.sl [Kd.b, Kd.i IntKind.i64, Kd.s]] r1 Right.no, AV.dv (DV.val (Value.int IntKind.i64 j2))] [] (OSh.chk (OSh.plain (.i IntKind.i64) []))
noncomputable def ref04_Weight_l3 (n : Nat) (b0 : Bool) (r1 : Rows) (j2 : Int) (i0 : Nat) (j5 : Int) (j6 : Int) : Option (Int × Unit) :=
  DM.loopFn tm (ref04_Weight_Φ n) ref04_Weight_lv n Try.f21 false [] (OSh.chk (OSh.plain (.i IntKind.i64) [])) 3 [] i0 (St.mk [AV.sl b0 [Kd.s, Kd.s, Kd.s, Kd.sl [Kd.b, Kd.i IntKind.i64, Kd.s]] r1 Right.no, AV.dv (DV.val (Value.int IntKind.i64 j2)), AV.junk, AV.junk, AV.junk, AV.dv (DV.val (Value.int IntKind.i64 j5)), AV.dv (DV.val (Value.int IntKind.i64 j6)), AV.junk, AV.junk, AV.junk, AV.junk, AV.junk, AV.junk, AV.junk, AV.junk, AV.junk, AV.junk, AV.junk, AV.junk, AV.junk, AV.junk, AV.junk, AV.junk, AV.junk, AV.junk, AV.junk, AV.junk, AV.junk, AV.junk, AV.junk, AV.junk, AV.junk, AV.junk, AV.junk, AV.junk, AV.junk, AV.junk, AV.junk, AV.junk, AV.junk, AV.junk, AV.junk, AV.junk, AV.junk, AV.junk, AV.junk, AV.junk, AV.junk, AV.junk, AV.junk, AV.junk, AV.junk, AV.junk, AV.junk, AV.junk, AV.junk, AV.junk, AV.junk, AV.junk, AV.junk, AV.junk, AV.junk, AV.junk, AV.junk, AV.junk, AV.junk, AV.junk, AV.junk, AV.junk, AV.junk, AV.junk, AV.junk, AV.junk, AV.junk, AV.junk, AV.junk, AV.junk, AV.junk, AV.junk] [])
noncomputable def ref04_Weight_l7 (n : Nat) (b0 : Bool) (r1 : Rows) (j2 : Int) (i0 i1 : Nat) (j3 : Int) (j4 : Int) (j7 : Int) : Option (Int × Unit) :=
  DM.loopFn tm (ref04_Weight_Φ n) ref04_Weight_lv n Try.f21 false [] (OSh.chk (OSh.plain (.i IntKind.i64) [])) 7 [i0] i1 (St.mk [AV.sl b0 [Kd.s, Kd.s, Kd.s, Kd.sl [Kd.b, Kd.i IntKind.i64, Kd.s]] r1 Right.no, AV.dv (DV.val (Value.int IntKind.i64 j2)), AV.junk, AV.junk, AV.junk, AV.dv (DV.val (Value.int IntKind.i64 j3)), AV.dv (DV.val (Value.int IntKind.i64 j7)), AV.dv (DV.val (Value.int IntKind.i64 j4)), AV.junk, AV.junk, AV.junk, AV.junk, AV.junk, AV.junk, AV.junk, AV.junk, AV.junk, AV.junk, AV.junk, AV.junk, AV.junk, AV.junk, AV.junk, AV.junk, AV.junk, AV.junk, AV.junk, AV.junk, AV.junk, AV.junk, AV.junk, AV.junk, AV.junk, AV.junk, AV.junk, AV.junk, AV.junk, AV.junk, AV.junk, AV.junk, AV.junk, AV.junk, AV.junk, AV.junk, AV.junk, AV.junk, AV.junk, AV.junk, AV.junk, AV.junk, AV.junk, AV.junk, AV.junk, AV.junk, AV.junk, AV.junk, AV.junk, AV.junk, AV.junk, AV.junk, AV.junk, AV.junk, AV.junk, AV.junk, AV.junk, AV.junk, AV.junk, AV.junk, AV.junk, AV.junk, AV.junk, AV.junk, AV.junk, AV.junk, AV.junk, AV.junk, AV.junk, AV.junk, AV.junk] [])
theorem ref04_Weight_s3 (n : Nat) (b0 : Bool) (r1 : Rows) (j2 : Int) (i0 : Nat) (j5 : Int) (j6 : Int) : ref04_Weight_l3 n b0 r1 j2 (i0 + 1) j5 j6 =
  bif decide (j6 < (↑(List.length r1) : Int)) then
    bif decide (j5 ≤ j2) then
      if 0 ≤ j6 then
        if j6 < (↑(List.length r1) : Int) then
          if 0 ≤ j6 then
            if j6 < (↑(List.length r1) : Int) then
              if 0 ≤ j6 then
                if j6 < (↑(List.length r1) : Int) then
                  if 0 ≤ j6 then
                    if j6 < (↑(List.length r1) : Int) then
                      ref04_Weight_l7 n b0 r1 j2 i0 n (IntKind.wrap IntKind.i64 (j5 + IntKind.wrap IntKind.i64 (IntKind.wrap IntKind.i64 (1 + (↑(List.length (Row.R (List.getD r1 (Int.toNat j6) []) 3)) : Int)) + IntKind.wrap IntKind.i64 (Int.tdiv (IntKind.wrap IntKind.i64 (IntKind.wrap IntKind.i64 ((↑(ByteArray.size (Row.S (List.getD r1 (Int.toNat j6) []) 0)) : Int) + (↑(ByteArray.size (Row.S (List.getD r1 (Int.toNat j6) []) 1)) : Int)) + (↑(ByteArray.size (Row.S (List.getD r1 (Int.toNat j6) []) 2)) : Int))) 16)))) 0 j6
                    else none
                  else none
                else none
              else none
            else none
          else none
        else none
      else none
    else some (j5, ())
  else some (j5, ()) := by kernel_rfl
theorem ref04_Weight_s7 (n : Nat) (b0 : Bool) (r1 : Rows) (j2 : Int) (i0 i1 : Nat) (j3 : Int) (j4 : Int) (j7 : Int) : ref04_Weight_l7 n b0 r1 j2 i0 (i1 + 1) j3 j4 j7 =
  if 0 ≤ j7 then
    if j7 < (↑(List.length r1) : Int) then
      bif decide (j4 < (↑(List.length (Row.R (List.getD r1 (Int.toNat j7) []) 3)) : Int)) then
        bif decide (j3 ≤ j2) then
          if 0 ≤ j7 then
            if j7 < (↑(List.length r1) : Int) then
              if 0 ≤ j4 then
                if j4 < (↑(List.length (Row.R (List.getD r1 (Int.toNat j7) []) 3)) : Int) then
                  ref04_Weight_l7 n b0 r1 j2 i0 i1 (IntKind.wrap IntKind.i64 (j3 + IntKind.wrap IntKind.i64 (Int.tdiv (↑(ByteArray.size (Row.S (List.getD (Row.R (List.getD r1 (Int.toNat j7) []) 3) (Int.toNat j4) []) 2)) : Int) 16))) (IntKind.wrap IntKind.i64 (j4 + 1)) j7
                else none
              else none
            else none
          else none
        else ref04_Weight_l3 n b0 r1 j2 i0 j3 (IntKind.wrap IntKind.i64 (j7 + 1))
      else ref04_Weight_l3 n b0 r1 j2 i0 j3 (IntKind.wrap IntKind.i64 (j7 + 1))
    else none
  else none := by kernel_rfl
theorem ref04_Weight_e (n : Nat) (b0 : Bool) (r1 : Rows) (j2 : Int) : ref04_Weight_v n b0 r1 j2 =
  ref04_Weight_l3 n b0 r1 j2 n 0 0 := by kernel_rfl
theorem ref04_Weight_c (n : Nat) (b0 : Bool) (r1 : Rows) (j2 : Int) (y : Int × Unit) (h : ref04_Weight_v n b0 r1 j2 = some y) : Contract Try.prog 21 [AV.sl b0 [Kd.s, Kd.s, Kd.s, Kd.sl [Kd.b, Kd.i IntKind.i64, Kd.s]] r1 Right.no, AV.dv (DV.val (Value.int IntKind.i64 j2))] [] (OSh.enc (OSh.plain (.i IntKind.i64) []) y) :=
  auto_okM tm_std (with_ok mixed (by kernel_rfl) (ref04_Weight_σok n) n 0 [1000067, 1000069]) (with_pick mixed (by kernel_rfl) (ref04_Weight_σok n) n 0 [1000067, 1000069]) mixed Try.func21 (by decide) (o := (OSh.plain (.i IntKind.i64) [])) h
/-! ref04_Copy: function 22 -/
def ref04_Copy_lv : Live := [(3, [0, 3, 4], [1000, 1001, 1002, 1003])]
noncomputable def ref04_Copy_σ (n : Nat) : Spec := Spec.none
theorem ref04_Copy_σok (n : Nat) : SpecOk Try.prog (ref04_Copy_σ n) := (SpecOk.none _)
noncomputable def ref04_Copy_Φ (n : Nat) : Orc := with_ Try.prog (ref04_Copy_σ n) [] n 0 [1000067, 1000069]
noncomputable def ref04_Copy_v (n : Nat) (b0 : Bool) (r1 : Rows) : Option ((Bool × Rows) × Unit) :=
  DM.denFn tm (ref04_Copy_Φ n) ref04_Copy_lv n Try.f22 true [AV.sl b0 [Kd.s, Kd.s, Kd.s, Kd.sl [Kd.b, Kd.i IntKind.i64, Kd.s]] r1 Right.no] [] (OSh.chk (OSh.plain (.slt [Kd.s, Kd.s, Kd.s, Kd.sl [Kd.b, Kd.i IntKind.i64, Kd.s]] 0) []))
noncomputable def ref04_Copy_l3 (n : Nat) (b0 : Bool) (r1 : Rows) (i0 : Nat) (b2 : Bool) (r3 : List (List DV)) (j4 : Int) : Option ((Bool × Rows) × Unit) :=
  DM.loopFn tm (ref04_Copy_Φ n) ref04_Copy_lv n Try.f22 true [] (OSh.chk (OSh.plain (.slt [Kd.s, Kd.s, Kd.s, Kd.sl [Kd.b, Kd.i IntKind.i64, Kd.s]] 0) [])) 3 [] i0 (St.mk [AV.sl b0 [Kd.s, Kd.s, Kd.s, Kd.sl [Kd.b, Kd.i IntKind.i64, Kd.s]] r1 Right.no, AV.junk, AV.junk, AV.sl b2 [Kd.s, Kd.s, Kd.s, Kd.sl [Kd.b, Kd.i IntKind.i64, Kd.s]] r3 (Right.tok 3), AV.dv (DV.val (Value.int IntKind.i64 j4)), AV.junk, AV.junk, AV.junk, AV.junk, AV.junk, AV.junk, AV.junk, AV.junk, AV.junk, AV.junk, AV.junk, AV.junk, AV.junk, AV.junk, AV.junk, AV.junk, AV.junk, AV.junk, AV.junk, AV.junk, AV.junk] [])
theorem ref04_Copy_s3 (n : Nat) (b0 : Bool) (r1 : Rows) (i0 : Nat) (b2 : Bool) (r3 : List (List DV)) (j4 : Int) : ref04_Copy_l3 n b0 r1 (i0 + 1) b2 r3 j4 =
  bif decide (j4 < (↑(List.length r1) : Int)) then
    if 0 ≤ j4 then
      if j4 < (↑(List.length r1) : Int) then
        if (0 + List.length (Row.R (List.getD r1 (Int.toNat j4) []) 3)) * 32 ≤ 140737488355328 then
          if (List.length r3 + List.length [[DV.val (Value.string (Row.S (List.getD r1 (Int.toNat j4) []) 0)), DV.val (Value.string (Row.S (List.getD r1 (Int.toNat j4) []) 1)), DV.val (Value.string (Row.S (List.getD r1 (Int.toNat j4) []) 2)), DV.sl (false && List.isEmpty (Row.R (List.getD r1 (Int.toNat j4) []) 3)) [Kd.b, Kd.i IntKind.i64, Kd.s] (appX [] (Row.R (List.getD r1 (Int.toNat j4) []) 3))]]) * 72 ≤ 140737488355328 then
            ref04_Copy_l3 n b0 r1 i0 (b2 && List.isEmpty [[DV.val (Value.string (Row.S (List.getD r1 (Int.toNat j4) []) 0)), DV.val (Value.string (Row.S (List.getD r1 (Int.toNat j4) []) 1)), DV.val (Value.string (Row.S (List.getD r1 (Int.toNat j4) []) 2)), DV.sl (false && List.isEmpty (Row.R (List.getD r1 (Int.toNat j4) []) 3)) [Kd.b, Kd.i IntKind.i64, Kd.s] (appX [] (Row.R (List.getD r1 (Int.toNat j4) []) 3))]]) (appX r3 [[DV.val (Value.string (Row.S (List.getD r1 (Int.toNat j4) []) 0)), DV.val (Value.string (Row.S (List.getD r1 (Int.toNat j4) []) 1)), DV.val (Value.string (Row.S (List.getD r1 (Int.toNat j4) []) 2)), DV.sl (false && List.isEmpty (Row.R (List.getD r1 (Int.toNat j4) []) 3)) [Kd.b, Kd.i IntKind.i64, Kd.s] (appX [] (Row.R (List.getD r1 (Int.toNat j4) []) 3))]]) (IntKind.wrap IntKind.i64 (j4 + 1))
          else none
        else none
      else none
    else none
  else some ((b2, r3), ()) := by kernel_rfl
theorem ref04_Copy_e (n : Nat) (b0 : Bool) (r1 : Rows) : ref04_Copy_v n b0 r1 =
  ref04_Copy_l3 n b0 r1 n true [] 0 := by kernel_rfl
theorem ref04_Copy_c (n : Nat) (b0 : Bool) (r1 : Rows) (y : (Bool × Rows) × Unit) (h : ref04_Copy_v n b0 r1 = some y) : Contract Try.prog 22 [AV.sl b0 [Kd.s, Kd.s, Kd.s, Kd.sl [Kd.b, Kd.i IntKind.i64, Kd.s]] r1 Right.no] [] (OSh.enc (OSh.plain (.slt [Kd.s, Kd.s, Kd.s, Kd.sl [Kd.b, Kd.i IntKind.i64, Kd.s]] 0) []) y) :=
  auto_okM tm_std (with_ok mixed (by kernel_rfl) (ref04_Copy_σok n) n 0 [1000067, 1000069]) (with_pick mixed (by kernel_rfl) (ref04_Copy_σok n) n 0 [1000067, 1000069]) mixed Try.func22 (by decide) (o := (OSh.plain (.slt [Kd.s, Kd.s, Kd.s, Kd.sl [Kd.b, Kd.i IntKind.i64, Kd.s]] 0) [])) h
/-! ref04_With: function 69 -/
def ref04_With_lv : Live := [(2, [0, 3, 5], [3, 1000, 1001, 1002, 1003])]
noncomputable def ref04_With_σ (n : Nat) : Spec := (inst 29 [.agg [.s, .s, .s, .sl [Kd.b, Kd.i IntKind.i64, Kd.s]], .agg [.s, .s, .s, .sl [Kd.b, Kd.i IntKind.i64, Kd.s]]] [] (OSh.plain (.i IntKind.i64) []) (fun x e => ref04_Order_v n x.1.1 x.1.2.1 x.1.2.2.1 x.1.2.2.2.1.1 x.1.2.2.2.1.2 x.2.1.1 x.2.1.2.1 x.2.1.2.2.1 x.2.1.2.2.2.1.1 x.2.1.2.2.2.1.2) Spec.none)
theorem ref04_With_σok (n : Nat) : SpecOk Try.prog (ref04_With_σ n) := (inst_ok (fun x e y h => ref04_Order_c n x.1.1 x.1.2.1 x.1.2.2.1 x.1.2.2.2.1.1 x.1.2.2.2.1.2 x.2.1.1 x.2.1.2.1 x.2.1.2.2.1 x.2.1.2.2.2.1.1 x.2.1.2.2.2.1.2 y h) (SpecOk.none _))
noncomputable def ref04_With_Φ (n : Nat) : Orc := with_ Try.prog (ref04_With_σ n) [] n 0 [1000067, 1000069]
noncomputable def ref04_With_v (n : Nat) (b0 : Bool) (r1 : Rows) (s2 : ByteArray) (s3 : ByteArray) (s4 : ByteArray) (b5 : Bool) (r6 : Rows) : Option ((Bool × Rows) × Unit) :=
  DM.denFn tm (ref04_With_Φ n) ref04_With_lv n Try.f69 true [AV.sl b0 [Kd.s, Kd.s, Kd.s, Kd.sl [Kd.b, Kd.i IntKind.i64, Kd.s]] r1 (Right.tok 500000), AV.agg [AV.dv (DV.val (Value.string s2)), AV.dv (DV.val (Value.string s3)), AV.dv (DV.val (Value.string s4)), AV.sl b5 [Kd.b, Kd.i IntKind.i64, Kd.s] r6 Right.no]] [] (OSh.chk (OSh.plain (.slt [Kd.s, Kd.s, Kd.s, Kd.sl [Kd.b, Kd.i IntKind.i64, Kd.s]] 0) []))
noncomputable def ref04_With_l2 (n : Nat) (b0 : Bool) (r1 : Rows) (s2 : ByteArray) (s3 : ByteArray) (s4 : ByteArray) (b5 : Bool) (r6 : Rows) (i0 : Nat) (j10 : Int) : Option ((Bool × Rows) × Unit) :=
  DM.loopFn tm (ref04_With_Φ n) ref04_With_lv n Try.f69 true [] (OSh.chk (OSh.plain (.slt [Kd.s, Kd.s, Kd.s, Kd.sl [Kd.b, Kd.i IntKind.i64, Kd.s]] 0) [])) 2 [] i0 (St.mk [AV.sl b0 [Kd.s, Kd.s, Kd.s, Kd.sl [Kd.b, Kd.i IntKind.i64, Kd.s]] r1 (Right.tok 0), AV.junk, AV.junk, AV.pl 3 0, AV.junk, AV.dv (DV.val (Value.int IntKind.i64 j10)), AV.junk, AV.junk, AV.junk, AV.junk, AV.junk, AV.junk, AV.junk, AV.junk, AV.junk, AV.junk, AV.junk, AV.junk, AV.junk, AV.junk, AV.junk, AV.junk, AV.junk, AV.junk, AV.junk, AV.junk, AV.junk, AV.junk, AV.junk, AV.junk, AV.junk, AV.junk, AV.junk, AV.junk, AV.junk, AV.junk, AV.junk, AV.junk, AV.junk, AV.junk, AV.junk, AV.junk, AV.junk, AV.junk, AV.junk, AV.junk, AV.junk, AV.junk, AV.junk, AV.junk] [(3, [AV.dv (DV.val (Value.string s2)), AV.dv (DV.val (Value.string s3)), AV.dv (DV.val (Value.string s4)), AV.sl b5 [Kd.b, Kd.i IntKind.i64, Kd.s] r6 Right.no])])
theorem ref04_With_s2 (n : Nat) (b0 : Bool) (r1 : Rows) (s2 : ByteArray) (s3 : ByteArray) (s4 : ByteArray) (b5 : Bool) (r6 : Rows) (i0 : Nat) (j10 : Int) : ref04_With_l2 n b0 r1 s2 s3 s4 b5 r6 (i0 + 1) j10 =
  bif decide (j10 < (↑(List.length r1) : Int)) then
    if 0 ≤ j10 then
      if j10 < (↑(List.length r1) : Int) then
        obind (ref04_Order_v n (Row.S (List.getD r1 (Int.toNat j10) []) 0) (Row.S (List.getD r1 (Int.toNat j10) []) 1) (Row.S (List.getD r1 (Int.toNat j10) []) 2) (Row.N (List.getD r1 (Int.toNat j10) []) 3) (Row.R (List.getD r1 (Int.toNat j10) []) 3) s2 s3 s4 b5 r6) fun y11 =>
        bif decide (y11.fst < 0) then
          ref04_With_l2 n b0 r1 s2 s3 s4 b5 r6 i0 (IntKind.wrap IntKind.i64 (j10 + 1))
        else bif decide (j10 < (↑(List.length r1) : Int)) then
          if 0 ≤ j10 then
            if j10 < (↑(List.length r1) : Int) then
              obind (ref04_Order_v n (Row.S (List.getD r1 (Int.toNat j10) []) 0) (Row.S (List.getD r1 (Int.toNat j10) []) 1) (Row.S (List.getD r1 (Int.toNat j10) []) 2) (Row.N (List.getD r1 (Int.toNat j10) []) 3) (Row.R (List.getD r1 (Int.toNat j10) []) 3) s2 s3 s4 b5 r6) fun y12 =>
              bif y12.fst == 0 then
                some ((b0, r1), ())
              else if 0 ≤ j10 then
                if j10 ≤ (↑(List.length r1) : Int) then
                  if (0 + List.length (List.drop 0 (List.take (Int.toNat j10) r1))) * 72 ≤ 140737488355328 then
                    if (List.length (appX [] (List.drop 0 (List.take (Int.toNat j10) r1))) + List.length [[DV.val (Value.string s2), DV.val (Value.string s3), DV.val (Value.string s4), DV.sl b5 [Kd.b, Kd.i IntKind.i64, Kd.s] r6]]) * 72 ≤ 140737488355328 then
                      if 0 ≤ j10 then
                        if j10 ≤ (↑(List.length r1) : Int) then
                          if (↑(List.length r1) : Int) ≤ (↑(List.length r1) : Int) then
                            if (List.length (appX (appX [] (List.drop 0 (List.take (Int.toNat j10) r1))) [[DV.val (Value.string s2), DV.val (Value.string s3), DV.val (Value.string s4), DV.sl b5 [Kd.b, Kd.i IntKind.i64, Kd.s] r6]]) + List.length (List.drop (Int.toNat j10) (List.take (Int.toNat (↑(List.length r1) : Int)) r1))) * 72 ≤ 140737488355328 then
                              some ((false && List.isEmpty (List.drop 0 (List.take (Int.toNat j10) r1)) && List.isEmpty [[DV.val (Value.string s2), DV.val (Value.string s3), DV.val (Value.string s4), DV.sl b5 [Kd.b, Kd.i IntKind.i64, Kd.s] r6]] && List.isEmpty (List.drop (Int.toNat j10) (List.take (Int.toNat (↑(List.length r1) : Int)) r1)), appX (appX (appX [] (List.drop 0 (List.take (Int.toNat j10) r1))) [[DV.val (Value.string s2), DV.val (Value.string s3), DV.val (Value.string s4), DV.sl b5 [Kd.b, Kd.i IntKind.i64, Kd.s] r6]]) (List.drop (Int.toNat j10) (List.take (Int.toNat (↑(List.length r1) : Int)) r1))), ())
                            else none
                          else none
                        else none
                      else none
                    else none
                  else none
                else none
              else none
            else none
          else none
        else if 0 ≤ j10 then
          if j10 ≤ (↑(List.length r1) : Int) then
            if (0 + List.length (List.drop 0 (List.take (Int.toNat j10) r1))) * 72 ≤ 140737488355328 then
              if (List.length (appX [] (List.drop 0 (List.take (Int.toNat j10) r1))) + List.length [[DV.val (Value.string s2), DV.val (Value.string s3), DV.val (Value.string s4), DV.sl b5 [Kd.b, Kd.i IntKind.i64, Kd.s] r6]]) * 72 ≤ 140737488355328 then
                if 0 ≤ j10 then
                  if j10 ≤ (↑(List.length r1) : Int) then
                    if (↑(List.length r1) : Int) ≤ (↑(List.length r1) : Int) then
                      if (List.length (appX (appX [] (List.drop 0 (List.take (Int.toNat j10) r1))) [[DV.val (Value.string s2), DV.val (Value.string s3), DV.val (Value.string s4), DV.sl b5 [Kd.b, Kd.i IntKind.i64, Kd.s] r6]]) + List.length (List.drop (Int.toNat j10) (List.take (Int.toNat (↑(List.length r1) : Int)) r1))) * 72 ≤ 140737488355328 then
                        some ((false && List.isEmpty (List.drop 0 (List.take (Int.toNat j10) r1)) && List.isEmpty [[DV.val (Value.string s2), DV.val (Value.string s3), DV.val (Value.string s4), DV.sl b5 [Kd.b, Kd.i IntKind.i64, Kd.s] r6]] && List.isEmpty (List.drop (Int.toNat j10) (List.take (Int.toNat (↑(List.length r1) : Int)) r1)), appX (appX (appX [] (List.drop 0 (List.take (Int.toNat j10) r1))) [[DV.val (Value.string s2), DV.val (Value.string s3), DV.val (Value.string s4), DV.sl b5 [Kd.b, Kd.i IntKind.i64, Kd.s] r6]]) (List.drop (Int.toNat j10) (List.take (Int.toNat (↑(List.length r1) : Int)) r1))), ())
                      else none
                    else none
                  else none
                else none
              else none
            else none
          else none
        else none
      else none
    else none
  else bif decide (j10 < (↑(List.length r1) : Int)) then
    if 0 ≤ j10 then
      if j10 < (↑(List.length r1) : Int) then
        obind (ref04_Order_v n (Row.S (List.getD r1 (Int.toNat j10) []) 0) (Row.S (List.getD r1 (Int.toNat j10) []) 1) (Row.S (List.getD r1 (Int.toNat j10) []) 2) (Row.N (List.getD r1 (Int.toNat j10) []) 3) (Row.R (List.getD r1 (Int.toNat j10) []) 3) s2 s3 s4 b5 r6) fun y13 =>
        bif y13.fst == 0 then
          some ((b0, r1), ())
        else if 0 ≤ j10 then
          if j10 ≤ (↑(List.length r1) : Int) then
            if (0 + List.length (List.drop 0 (List.take (Int.toNat j10) r1))) * 72 ≤ 140737488355328 then
              if (List.length (appX [] (List.drop 0 (List.take (Int.toNat j10) r1))) + List.length [[DV.val (Value.string s2), DV.val (Value.string s3), DV.val (Value.string s4), DV.sl b5 [Kd.b, Kd.i IntKind.i64, Kd.s] r6]]) * 72 ≤ 140737488355328 then
                if 0 ≤ j10 then
                  if j10 ≤ (↑(List.length r1) : Int) then
                    if (↑(List.length r1) : Int) ≤ (↑(List.length r1) : Int) then
                      if (List.length (appX (appX [] (List.drop 0 (List.take (Int.toNat j10) r1))) [[DV.val (Value.string s2), DV.val (Value.string s3), DV.val (Value.string s4), DV.sl b5 [Kd.b, Kd.i IntKind.i64, Kd.s] r6]]) + List.length (List.drop (Int.toNat j10) (List.take (Int.toNat (↑(List.length r1) : Int)) r1))) * 72 ≤ 140737488355328 then
                        some ((false && List.isEmpty (List.drop 0 (List.take (Int.toNat j10) r1)) && List.isEmpty [[DV.val (Value.string s2), DV.val (Value.string s3), DV.val (Value.string s4), DV.sl b5 [Kd.b, Kd.i IntKind.i64, Kd.s] r6]] && List.isEmpty (List.drop (Int.toNat j10) (List.take (Int.toNat (↑(List.length r1) : Int)) r1)), appX (appX (appX [] (List.drop 0 (List.take (Int.toNat j10) r1))) [[DV.val (Value.string s2), DV.val (Value.string s3), DV.val (Value.string s4), DV.sl b5 [Kd.b, Kd.i IntKind.i64, Kd.s] r6]]) (List.drop (Int.toNat j10) (List.take (Int.toNat (↑(List.length r1) : Int)) r1))), ())
                      else none
                    else none
                  else none
                else none
              else none
            else none
          else none
        else none
      else none
    else none
  else if 0 ≤ j10 then
    if j10 ≤ (↑(List.length r1) : Int) then
      if (0 + List.length (List.drop 0 (List.take (Int.toNat j10) r1))) * 72 ≤ 140737488355328 then
        if (List.length (appX [] (List.drop 0 (List.take (Int.toNat j10) r1))) + List.length [[DV.val (Value.string s2), DV.val (Value.string s3), DV.val (Value.string s4), DV.sl b5 [Kd.b, Kd.i IntKind.i64, Kd.s] r6]]) * 72 ≤ 140737488355328 then
          if 0 ≤ j10 then
            if j10 ≤ (↑(List.length r1) : Int) then
              if (↑(List.length r1) : Int) ≤ (↑(List.length r1) : Int) then
                if (List.length (appX (appX [] (List.drop 0 (List.take (Int.toNat j10) r1))) [[DV.val (Value.string s2), DV.val (Value.string s3), DV.val (Value.string s4), DV.sl b5 [Kd.b, Kd.i IntKind.i64, Kd.s] r6]]) + List.length (List.drop (Int.toNat j10) (List.take (Int.toNat (↑(List.length r1) : Int)) r1))) * 72 ≤ 140737488355328 then
                  some ((false && List.isEmpty (List.drop 0 (List.take (Int.toNat j10) r1)) && List.isEmpty [[DV.val (Value.string s2), DV.val (Value.string s3), DV.val (Value.string s4), DV.sl b5 [Kd.b, Kd.i IntKind.i64, Kd.s] r6]] && List.isEmpty (List.drop (Int.toNat j10) (List.take (Int.toNat (↑(List.length r1) : Int)) r1)), appX (appX (appX [] (List.drop 0 (List.take (Int.toNat j10) r1))) [[DV.val (Value.string s2), DV.val (Value.string s3), DV.val (Value.string s4), DV.sl b5 [Kd.b, Kd.i IntKind.i64, Kd.s] r6]]) (List.drop (Int.toNat j10) (List.take (Int.toNat (↑(List.length r1) : Int)) r1))), ())
                else none
              else none
            else none
          else none
        else none
      else none
    else none
  else none := by kernel_rfl
theorem ref04_With_e (n : Nat) (b0 : Bool) (r1 : Rows) (s2 : ByteArray) (s3 : ByteArray) (s4 : ByteArray) (b5 : Bool) (r6 : Rows) : ref04_With_v n b0 r1 s2 s3 s4 b5 r6 =
  ref04_With_l2 n b0 r1 s2 s3 s4 b5 r6 n 0 := by kernel_rfl
theorem ref04_With_c (n : Nat) (b0 : Bool) (r1 : Rows) (s2 : ByteArray) (s3 : ByteArray) (s4 : ByteArray) (b5 : Bool) (r6 : Rows) (y : (Bool × Rows) × Unit) (h : ref04_With_v n b0 r1 s2 s3 s4 b5 r6 = some y) : Contract Try.prog 69 [AV.sl b0 [Kd.s, Kd.s, Kd.s, Kd.sl [Kd.b, Kd.i IntKind.i64, Kd.s]] r1 (Right.tok 500000), AV.agg [AV.dv (DV.val (Value.string s2)), AV.dv (DV.val (Value.string s3)), AV.dv (DV.val (Value.string s4)), AV.sl b5 [Kd.b, Kd.i IntKind.i64, Kd.s] r6 Right.no]] [] (OSh.enc (OSh.plain (.slt [Kd.s, Kd.s, Kd.s, Kd.sl [Kd.b, Kd.i IntKind.i64, Kd.s]] 0) []) y) :=
  auto_okM tm_std (with_ok mixed (by kernel_rfl) (ref04_With_σok n) n 0 [1000067, 1000069]) (with_pick mixed (by kernel_rfl) (ref04_With_σok n) n 0 [1000067, 1000069]) mixed Try.func69 (by decide) (o := (OSh.plain (.slt [Kd.s, Kd.s, Kd.s, Kd.sl [Kd.b, Kd.i IntKind.i64, Kd.s]] 0) [])) h
/-! ref04_Sorted: function 25 -/
def ref04_Sorted_lv : Live := [(3, [0, 3, 4], [1000, 1001, 1002, 1003])]
noncomputable def ref04_Sorted_σ (n : Nat) : Spec := (inst 69 [.slt [Kd.s, Kd.s, Kd.s, Kd.sl [Kd.b, Kd.i IntKind.i64, Kd.s]] 500000, .agg [.s, .s, .s, .sl [Kd.b, Kd.i IntKind.i64, Kd.s]]] [] (OSh.plain (.slt [Kd.s, Kd.s, Kd.s, Kd.sl [Kd.b, Kd.i IntKind.i64, Kd.s]] 0) []) (fun x e => ref04_With_v n x.1.1 x.1.2 x.2.1.1 x.2.1.2.1 x.2.1.2.2.1 x.2.1.2.2.2.1.1 x.2.1.2.2.2.1.2) Spec.none)
theorem ref04_Sorted_σok (n : Nat) : SpecOk Try.prog (ref04_Sorted_σ n) := (inst_ok (fun x e y h => ref04_With_c n x.1.1 x.1.2 x.2.1.1 x.2.1.2.1 x.2.1.2.2.1 x.2.1.2.2.2.1.1 x.2.1.2.2.2.1.2 y h) (SpecOk.none _))
noncomputable def ref04_Sorted_Φ (n : Nat) : Orc := with_ Try.prog (ref04_Sorted_σ n) [] n 0 [1000067, 1000069]
noncomputable def ref04_Sorted_v (n : Nat) (b0 : Bool) (r1 : Rows) : Option ((Bool × Rows) × Unit) :=
  DM.denFn tm (ref04_Sorted_Φ n) ref04_Sorted_lv n Try.f25 true [AV.sl b0 [Kd.s, Kd.s, Kd.s, Kd.sl [Kd.b, Kd.i IntKind.i64, Kd.s]] r1 Right.no] [] (OSh.chk (OSh.plain (.slt [Kd.s, Kd.s, Kd.s, Kd.sl [Kd.b, Kd.i IntKind.i64, Kd.s]] 0) []))
noncomputable def ref04_Sorted_l3 (n : Nat) (b0 : Bool) (r1 : Rows) (i0 : Nat) (b3 : Bool) (r4 : List (List DV)) (j5 : Int) : Option ((Bool × Rows) × Unit) :=
  DM.loopFn tm (ref04_Sorted_Φ n) ref04_Sorted_lv n Try.f25 true [] (OSh.chk (OSh.plain (.slt [Kd.s, Kd.s, Kd.s, Kd.sl [Kd.b, Kd.i IntKind.i64, Kd.s]] 0) [])) 3 [] i0 (St.mk [AV.sl b0 [Kd.s, Kd.s, Kd.s, Kd.sl [Kd.b, Kd.i IntKind.i64, Kd.s]] r1 Right.no, AV.junk, AV.junk, AV.sl b3 [Kd.s, Kd.s, Kd.s, Kd.sl [Kd.b, Kd.i IntKind.i64, Kd.s]] r4 (Right.tok 3), AV.dv (DV.val (Value.int IntKind.i64 j5)), AV.junk, AV.junk, AV.junk, AV.junk, AV.junk, AV.junk, AV.junk, AV.junk, AV.junk, AV.junk, AV.junk, AV.junk, AV.junk] [])
theorem ref04_Sorted_s3 (n : Nat) (b0 : Bool) (r1 : Rows) (i0 : Nat) (b3 : Bool) (r4 : List (List DV)) (j5 : Int) : ref04_Sorted_l3 n b0 r1 (i0 + 1) b3 r4 j5 =
  bif decide (j5 < (↑(List.length r1) : Int)) then
    if 0 ≤ j5 then
      if j5 < (↑(List.length r1) : Int) then
        obind (ref04_With_v n b3 r4 (Row.S (List.getD r1 (Int.toNat j5) []) 0) (Row.S (List.getD r1 (Int.toNat j5) []) 1) (Row.S (List.getD r1 (Int.toNat j5) []) 2) (Row.N (List.getD r1 (Int.toNat j5) []) 3) (Row.R (List.getD r1 (Int.toNat j5) []) 3)) fun y6 =>
        ref04_Sorted_l3 n b0 r1 i0 y6.fst.fst y6.fst.snd (IntKind.wrap IntKind.i64 (j5 + 1))
      else none
    else none
  else some ((b3, r4), ()) := by kernel_rfl
theorem ref04_Sorted_e (n : Nat) (b0 : Bool) (r1 : Rows) : ref04_Sorted_v n b0 r1 =
  ref04_Sorted_l3 n b0 r1 n true [] 0 := by kernel_rfl
theorem ref04_Sorted_c (n : Nat) (b0 : Bool) (r1 : Rows) (y : (Bool × Rows) × Unit) (h : ref04_Sorted_v n b0 r1 = some y) : Contract Try.prog 25 [AV.sl b0 [Kd.s, Kd.s, Kd.s, Kd.sl [Kd.b, Kd.i IntKind.i64, Kd.s]] r1 Right.no] [] (OSh.enc (OSh.plain (.slt [Kd.s, Kd.s, Kd.s, Kd.sl [Kd.b, Kd.i IntKind.i64, Kd.s]] 0) []) y) :=
  auto_okM tm_std (with_ok mixed (by kernel_rfl) (ref04_Sorted_σok n) n 0 [1000067, 1000069]) (with_pick mixed (by kernel_rfl) (ref04_Sorted_σok n) n 0 [1000067, 1000069]) mixed Try.func25 (by decide) (o := (OSh.plain (.slt [Kd.s, Kd.s, Kd.s, Kd.sl [Kd.b, Kd.i IntKind.i64, Kd.s]] 0) [])) h
/-! ref04_Like: function 24 -/
def ref04_Like_lv : Live := [(4, [0, 1, 5], [1000, 1001, 1002, 1003])]
noncomputable def ref04_Like_σ (n : Nat) : Spec := (inst 29 [.agg [.s, .s, .s, .sl [Kd.b, Kd.i IntKind.i64, Kd.s]], .agg [.s, .s, .s, .sl [Kd.b, Kd.i IntKind.i64, Kd.s]]] [] (OSh.plain (.i IntKind.i64) []) (fun x e => ref04_Order_v n x.1.1 x.1.2.1 x.1.2.2.1 x.1.2.2.2.1.1 x.1.2.2.2.1.2 x.2.1.1 x.2.1.2.1 x.2.1.2.2.1 x.2.1.2.2.2.1.1 x.2.1.2.2.2.1.2) Spec.none)
theorem ref04_Like_σok (n : Nat) : SpecOk Try.prog (ref04_Like_σ n) := (inst_ok (fun x e y h => ref04_Order_c n x.1.1 x.1.2.1 x.1.2.2.1 x.1.2.2.2.1.1 x.1.2.2.2.1.2 x.2.1.1 x.2.1.2.1 x.2.1.2.2.1 x.2.1.2.2.2.1.1 x.2.1.2.2.2.1.2 y h) (SpecOk.none _))
noncomputable def ref04_Like_Φ (n : Nat) : Orc := with_ Try.prog (ref04_Like_σ n) [] n 0 [1000067, 1000069]
noncomputable def ref04_Like_v (n : Nat) (b0 : Bool) (r1 : Rows) (b2 : Bool) (r3 : Rows) : Option (Bool × Unit) :=
  DM.denFn tm (ref04_Like_Φ n) ref04_Like_lv n Try.f24 false [AV.sl b0 [Kd.s, Kd.s, Kd.s, Kd.sl [Kd.b, Kd.i IntKind.i64, Kd.s]] r1 Right.no, AV.sl b2 [Kd.s, Kd.s, Kd.s, Kd.sl [Kd.b, Kd.i IntKind.i64, Kd.s]] r3 Right.no] [] (OSh.chk (OSh.plain (.b) []))
noncomputable def ref04_Like_l4 (n : Nat) (b0 : Bool) (r1 : Rows) (b2 : Bool) (r3 : Rows) (i0 : Nat) (j5 : Int) : Option (Bool × Unit) :=
  DM.loopFn tm (ref04_Like_Φ n) ref04_Like_lv n Try.f24 false [] (OSh.chk (OSh.plain (.b) [])) 4 [] i0 (St.mk [AV.sl b0 [Kd.s, Kd.s, Kd.s, Kd.sl [Kd.b, Kd.i IntKind.i64, Kd.s]] r1 Right.no, AV.sl b2 [Kd.s, Kd.s, Kd.s, Kd.sl [Kd.b, Kd.i IntKind.i64, Kd.s]] r3 Right.no, AV.junk, AV.junk, AV.junk, AV.dv (DV.val (Value.int IntKind.i64 j5)), AV.junk, AV.junk, AV.junk, AV.junk, AV.junk, AV.junk, AV.junk, AV.junk, AV.junk, AV.junk, AV.junk, AV.junk, AV.junk, AV.junk, AV.junk, AV.junk, AV.junk, AV.junk, AV.junk, AV.junk, AV.junk] [])
theorem ref04_Like_s4 (n : Nat) (b0 : Bool) (r1 : Rows) (b2 : Bool) (r3 : Rows) (i0 : Nat) (j5 : Int) : ref04_Like_l4 n b0 r1 b2 r3 (i0 + 1) j5 =
  bif decide (j5 < (↑(List.length r1) : Int)) then
    if 0 ≤ j5 then
      if j5 < (↑(List.length r1) : Int) then
        if 0 ≤ j5 then
          if j5 < (↑(List.length r3) : Int) then
            obind (ref04_Order_v n (Row.S (List.getD r1 (Int.toNat j5) []) 0) (Row.S (List.getD r1 (Int.toNat j5) []) 1) (Row.S (List.getD r1 (Int.toNat j5) []) 2) (Row.N (List.getD r1 (Int.toNat j5) []) 3) (Row.R (List.getD r1 (Int.toNat j5) []) 3) (Row.S (List.getD r3 (Int.toNat j5) []) 0) (Row.S (List.getD r3 (Int.toNat j5) []) 1) (Row.S (List.getD r3 (Int.toNat j5) []) 2) (Row.N (List.getD r3 (Int.toNat j5) []) 3) (Row.R (List.getD r3 (Int.toNat j5) []) 3)) fun y6 =>
            bif y6.fst != 0 then
              some (false, ())
            else ref04_Like_l4 n b0 r1 b2 r3 i0 (IntKind.wrap IntKind.i64 (j5 + 1))
          else none
        else none
      else none
    else none
  else some (true, ()) := by kernel_rfl
theorem ref04_Like_e (n : Nat) (b0 : Bool) (r1 : Rows) (b2 : Bool) (r3 : Rows) : ref04_Like_v n b0 r1 b2 r3 =
  bif (↑(List.length r1) : Int) != (↑(List.length r3) : Int) then
    some (false, ())
  else ref04_Like_l4 n b0 r1 b2 r3 n 0 := by kernel_rfl
theorem ref04_Like_c (n : Nat) (b0 : Bool) (r1 : Rows) (b2 : Bool) (r3 : Rows) (y : Bool × Unit) (h : ref04_Like_v n b0 r1 b2 r3 = some y) : Contract Try.prog 24 [AV.sl b0 [Kd.s, Kd.s, Kd.s, Kd.sl [Kd.b, Kd.i IntKind.i64, Kd.s]] r1 Right.no, AV.sl b2 [Kd.s, Kd.s, Kd.s, Kd.sl [Kd.b, Kd.i IntKind.i64, Kd.s]] r3 Right.no] [] (OSh.enc (OSh.plain (.b) []) y) :=
  auto_okM tm_std (with_ok mixed (by kernel_rfl) (ref04_Like_σok n) n 0 [1000067, 1000069]) (with_pick mixed (by kernel_rfl) (ref04_Like_σok n) n 0 [1000067, 1000069]) mixed Try.func24 (by decide) (o := (OSh.plain (.b) [])) h
/-! fact_Has_1: function 71 -/
def fact_Has_1_lv : Live := []
noncomputable def fact_Has_1_σ (n : Nat) : Spec := (inst 20 [.agg [.s, .s, .s, .sl [Kd.b, Kd.i IntKind.i64, Kd.s]], .agg [.s, .s, .s, .sl [Kd.b, Kd.i IntKind.i64, Kd.s]]] [] (OSh.plain (.i IntKind.i64) []) (fun x e => fact_Order_v n x.1.1 x.1.2.1 x.1.2.2.1 x.1.2.2.2.1.1 x.1.2.2.2.1.2 x.2.1.1 x.2.1.2.1 x.2.1.2.2.1 x.2.1.2.2.2.1.1 x.2.1.2.2.2.1.2) Spec.none)
theorem fact_Has_1_σok (n : Nat) : SpecOk Try.prog (fact_Has_1_σ n) := (inst_ok (fun x e y h => fact_Order_c n x.1.1 x.1.2.1 x.1.2.2.1 x.1.2.2.2.1.1 x.1.2.2.2.1.2 x.2.1.1 x.2.1.2.1 x.2.1.2.2.1 x.2.1.2.2.2.1.1 x.2.1.2.2.2.1.2 y h) (SpecOk.none _))
noncomputable def fact_Has_1_Φ (n : Nat) : Orc := with_ Try.prog (fact_Has_1_σ n) [] n 0 [1000067, 1000069]
noncomputable def fact_Has_1_v (n : Nat) (s0 : ByteArray) (s1 : ByteArray) (s2 : ByteArray) (b3 : Bool) (r4 : Rows) (s5 : ByteArray) (s6 : ByteArray) (s7 : ByteArray) (b8 : Bool) (r9 : Rows) : Option (Bool × (ByteArray × ByteArray × ByteArray × (Bool × Rows) × Unit) × Unit) :=
  DM.denFn tm (fact_Has_1_Φ n) fact_Has_1_lv n Try.f71 false [AV.agg [AV.dv (DV.val (Value.string s0)), AV.dv (DV.val (Value.string s1)), AV.dv (DV.val (Value.string s2)), AV.sl b3 [Kd.b, Kd.i IntKind.i64, Kd.s] r4 Right.no], AV.pl 1000 0] [[AV.dv (DV.val (Value.string s5)), AV.dv (DV.val (Value.string s6)), AV.dv (DV.val (Value.string s7)), AV.sl b8 [Kd.b, Kd.i IntKind.i64, Kd.s] r9 Right.no]] (OSh.chk (OSh.plain (.b) [[.s, .s, .s, .sl [Kd.b, Kd.i IntKind.i64, Kd.s]]]))
theorem fact_Has_1_e (n : Nat) (s0 : ByteArray) (s1 : ByteArray) (s2 : ByteArray) (b3 : Bool) (r4 : Rows) (s5 : ByteArray) (s6 : ByteArray) (s7 : ByteArray) (b8 : Bool) (r9 : Rows) : fact_Has_1_v n s0 s1 s2 b3 r4 s5 s6 s7 b8 r9 =
  obind (fact_Order_v n s5 s6 s7 b8 r9 s0 s1 s2 b3 r4) fun y10 =>
  some (y10.fst == 0, ((s5, (s6, (s7, ((b8, r9), ())))), ())) := by kernel_rfl
theorem fact_Has_1_c (n : Nat) (s0 : ByteArray) (s1 : ByteArray) (s2 : ByteArray) (b3 : Bool) (r4 : Rows) (s5 : ByteArray) (s6 : ByteArray) (s7 : ByteArray) (b8 : Bool) (r9 : Rows) (y : Bool × (ByteArray × ByteArray × ByteArray × (Bool × Rows) × Unit) × Unit) (h : fact_Has_1_v n s0 s1 s2 b3 r4 s5 s6 s7 b8 r9 = some y) : Contract Try.prog 71 [AV.agg [AV.dv (DV.val (Value.string s0)), AV.dv (DV.val (Value.string s1)), AV.dv (DV.val (Value.string s2)), AV.sl b3 [Kd.b, Kd.i IntKind.i64, Kd.s] r4 Right.no], AV.pl 1000 0] [[AV.dv (DV.val (Value.string s5)), AV.dv (DV.val (Value.string s6)), AV.dv (DV.val (Value.string s7)), AV.sl b8 [Kd.b, Kd.i IntKind.i64, Kd.s] r9 Right.no]] (OSh.enc (OSh.plain (.b) [[.s, .s, .s, .sl [Kd.b, Kd.i IntKind.i64, Kd.s]]]) y) :=
  auto_okM tm_std (with_ok mixed (by kernel_rfl) (fact_Has_1_σok n) n 0 [1000067, 1000069]) (with_pick mixed (by kernel_rfl) (fact_Has_1_σok n) n 0 [1000067, 1000069]) mixed Try.func71 (by decide) (o := (OSh.plain (.b) [[.s, .s, .s, .sl [Kd.b, Kd.i IntKind.i64, Kd.s]]])) h
/-! slices_IndexFunc: function 95 -/
def slices_IndexFunc_fact_Has_1_lv : Live := [(2, [0, 1, 7, 8], [1000, 1001, 1002, 1003])]
noncomputable def slices_IndexFunc_fact_Has_1_σ (n : Nat) : Spec := (inst 71 [.agg [.s, .s, .s, .sl [Kd.b, Kd.i IntKind.i64, Kd.s]], .pl 1000 0] [[.s, .s, .s, .sl [Kd.b, Kd.i IntKind.i64, Kd.s]]] (OSh.plain (.b) [[.s, .s, .s, .sl [Kd.b, Kd.i IntKind.i64, Kd.s]]]) (fun x e => fact_Has_1_v n x.1.1 x.1.2.1 x.1.2.2.1 x.1.2.2.2.1.1 x.1.2.2.2.1.2 e.1.1 e.1.2.1 e.1.2.2.1 e.1.2.2.2.1.1 e.1.2.2.2.1.2) Spec.none)
theorem slices_IndexFunc_fact_Has_1_σok (n : Nat) : SpecOk Try.prog (slices_IndexFunc_fact_Has_1_σ n) := (inst_ok (fun x e y h => fact_Has_1_c n x.1.1 x.1.2.1 x.1.2.2.1 x.1.2.2.2.1.1 x.1.2.2.2.1.2 e.1.1 e.1.2.1 e.1.2.2.1 e.1.2.2.2.1.1 e.1.2.2.2.1.2 y h) (SpecOk.none _))
noncomputable def slices_IndexFunc_fact_Has_1_Φ (n : Nat) : Orc := with_ Try.prog (slices_IndexFunc_fact_Has_1_σ n) [] n 0 [1000067, 1000069]
noncomputable def slices_IndexFunc_fact_Has_1_v (n : Nat) (b0 : Bool) (r1 : Rows) (s2 : ByteArray) (s3 : ByteArray) (s4 : ByteArray) (b5 : Bool) (r6 : Rows) : Option (Int × (ByteArray × ByteArray × ByteArray × (Bool × Rows) × Unit) × Unit) :=
  DM.denFn tm (slices_IndexFunc_fact_Has_1_Φ n) slices_IndexFunc_fact_Has_1_lv n Try.f95 false [AV.sl b0 [Kd.s, Kd.s, Kd.s, Kd.sl [Kd.b, Kd.i IntKind.i64, Kd.s]] r1 Right.no, AV.fn 71 [AV.pl 1000 0]] [[AV.dv (DV.val (Value.string s2)), AV.dv (DV.val (Value.string s3)), AV.dv (DV.val (Value.string s4)), AV.sl b5 [Kd.b, Kd.i IntKind.i64, Kd.s] r6 Right.no]] (OSh.chk (OSh.plain (.i IntKind.i64) [[.s, .s, .s, .sl [Kd.b, Kd.i IntKind.i64, Kd.s]]]))
noncomputable def slices_IndexFunc_fact_Has_1_l2 (n : Nat) (b0 : Bool) (r1 : Rows) (s2 : ByteArray) (s3 : ByteArray) (s4 : ByteArray) (b5 : Bool) (r6 : Rows) (i0 : Nat) (j8 : Int) (s9 : ByteArray) (s10 : ByteArray) (s11 : ByteArray) (b12 : Bool) (r13 : List (List DV)) : Option (Int × (ByteArray × ByteArray × ByteArray × (Bool × Rows) × Unit) × Unit) :=
  DM.loopFn tm (slices_IndexFunc_fact_Has_1_Φ n) slices_IndexFunc_fact_Has_1_lv n Try.f95 false [[AV.dv (DV.val (Value.string s2)), AV.dv (DV.val (Value.string s3)), AV.dv (DV.val (Value.string s4)), AV.sl b5 [Kd.b, Kd.i IntKind.i64, Kd.s] r6 Right.no]] (OSh.chk (OSh.plain (.i IntKind.i64) [[.s, .s, .s, .sl [Kd.b, Kd.i IntKind.i64, Kd.s]]])) 2 [] i0 (St.mk [AV.sl b0 [Kd.s, Kd.s, Kd.s, Kd.sl [Kd.b, Kd.i IntKind.i64, Kd.s]] r1 Right.no, AV.fn 71 [AV.pl 1000 0], AV.junk, AV.junk, AV.junk, AV.junk, AV.junk, AV.dv (DV.val (Value.int IntKind.i64 (↑(List.length r1) : Int))), AV.dv (DV.val (Value.int IntKind.i64 j8)), AV.junk, AV.junk, AV.junk, AV.junk, AV.junk, AV.junk, AV.junk, AV.junk, AV.junk, AV.junk] [(1000, [AV.dv (DV.val (Value.string s9)), AV.dv (DV.val (Value.string s10)), AV.dv (DV.val (Value.string s11)), AV.sl b12 [Kd.b, Kd.i IntKind.i64, Kd.s] r13 Right.no])])
theorem slices_IndexFunc_fact_Has_1_s2 (n : Nat) (b0 : Bool) (r1 : Rows) (s2 : ByteArray) (s3 : ByteArray) (s4 : ByteArray) (b5 : Bool) (r6 : Rows) (i0 : Nat) (j8 : Int) (s9 : ByteArray) (s10 : ByteArray) (s11 : ByteArray) (b12 : Bool) (r13 : List (List DV)) : slices_IndexFunc_fact_Has_1_l2 n b0 r1 s2 s3 s4 b5 r6 (i0 + 1) j8 s9 s10 s11 b12 r13 =
  bif decide (j8 < (↑(List.length r1) : Int)) then
    if 0 ≤ j8 then
      if j8 < (↑(List.length r1) : Int) then
        obind (fact_Has_1_v n (Row.S (List.getD r1 (Int.toNat j8) []) 0) (Row.S (List.getD r1 (Int.toNat j8) []) 1) (Row.S (List.getD r1 (Int.toNat j8) []) 2) (Row.N (List.getD r1 (Int.toNat j8) []) 3) (Row.R (List.getD r1 (Int.toNat j8) []) 3) s9 s10 s11 b12 r13) fun y14 =>
        bif y14.fst then
          some (j8, ((y14.snd.fst.fst, (y14.snd.fst.snd.fst, (y14.snd.fst.snd.snd.fst, ((y14.snd.fst.snd.snd.snd.fst.fst, y14.snd.fst.snd.snd.snd.fst.snd), ())))), ()))
        else slices_IndexFunc_fact_Has_1_l2 n b0 r1 s2 s3 s4 b5 r6 i0 (IntKind.wrap IntKind.i64 (j8 + 1)) y14.snd.fst.fst y14.snd.fst.snd.fst y14.snd.fst.snd.snd.fst y14.snd.fst.snd.snd.snd.fst.fst y14.snd.fst.snd.snd.snd.fst.snd
      else none
    else none
  else some (-1, ((s9, (s10, (s11, ((b12, r13), ())))), ())) := by kernel_rfl
theorem slices_IndexFunc_fact_Has_1_e (n : Nat) (b0 : Bool) (r1 : Rows) (s2 : ByteArray) (s3 : ByteArray) (s4 : ByteArray) (b5 : Bool) (r6 : Rows) : slices_IndexFunc_fact_Has_1_v n b0 r1 s2 s3 s4 b5 r6 =
  slices_IndexFunc_fact_Has_1_l2 n b0 r1 s2 s3 s4 b5 r6 n 0 s2 s3 s4 b5 r6 := by kernel_rfl
theorem slices_IndexFunc_fact_Has_1_c (n : Nat) (b0 : Bool) (r1 : Rows) (s2 : ByteArray) (s3 : ByteArray) (s4 : ByteArray) (b5 : Bool) (r6 : Rows) (y : Int × (ByteArray × ByteArray × ByteArray × (Bool × Rows) × Unit) × Unit) (h : slices_IndexFunc_fact_Has_1_v n b0 r1 s2 s3 s4 b5 r6 = some y) : Contract Try.prog 95 [AV.sl b0 [Kd.s, Kd.s, Kd.s, Kd.sl [Kd.b, Kd.i IntKind.i64, Kd.s]] r1 Right.no, AV.fn 71 [AV.pl 1000 0]] [[AV.dv (DV.val (Value.string s2)), AV.dv (DV.val (Value.string s3)), AV.dv (DV.val (Value.string s4)), AV.sl b5 [Kd.b, Kd.i IntKind.i64, Kd.s] r6 Right.no]] (OSh.enc (OSh.plain (.i IntKind.i64) [[.s, .s, .s, .sl [Kd.b, Kd.i IntKind.i64, Kd.s]]]) y) :=
  auto_okM tm_std (with_ok mixed (by kernel_rfl) (slices_IndexFunc_fact_Has_1_σok n) n 0 [1000067, 1000069]) (with_pick mixed (by kernel_rfl) (slices_IndexFunc_fact_Has_1_σok n) n 0 [1000067, 1000069]) mixed Try.func95 (by decide) (o := (OSh.plain (.i IntKind.i64) [[.s, .s, .s, .sl [Kd.b, Kd.i IntKind.i64, Kd.s]]])) h
/-! slices_ContainsFunc: function 70 -/
def slices_ContainsFunc_fact_Has_1_lv : Live := []
noncomputable def slices_ContainsFunc_fact_Has_1_σ (n : Nat) : Spec := (inst 95 [.sl [Kd.s, Kd.s, Kd.s, Kd.sl [Kd.b, Kd.i IntKind.i64, Kd.s]], .fn 71 [.pl 1000 0]] [[.s, .s, .s, .sl [Kd.b, Kd.i IntKind.i64, Kd.s]]] (OSh.plain (.i IntKind.i64) [[.s, .s, .s, .sl [Kd.b, Kd.i IntKind.i64, Kd.s]]]) (fun x e => slices_IndexFunc_fact_Has_1_v n x.1.1 x.1.2 e.1.1 e.1.2.1 e.1.2.2.1 e.1.2.2.2.1.1 e.1.2.2.2.1.2) Spec.none)
theorem slices_ContainsFunc_fact_Has_1_σok (n : Nat) : SpecOk Try.prog (slices_ContainsFunc_fact_Has_1_σ n) := (inst_ok (fun x e y h => slices_IndexFunc_fact_Has_1_c n x.1.1 x.1.2 e.1.1 e.1.2.1 e.1.2.2.1 e.1.2.2.2.1.1 e.1.2.2.2.1.2 y h) (SpecOk.none _))
noncomputable def slices_ContainsFunc_fact_Has_1_Φ (n : Nat) : Orc := with_ Try.prog (slices_ContainsFunc_fact_Has_1_σ n) [] n 0 [1000067, 1000069]
noncomputable def slices_ContainsFunc_fact_Has_1_v (n : Nat) (b0 : Bool) (r1 : Rows) (s2 : ByteArray) (s3 : ByteArray) (s4 : ByteArray) (b5 : Bool) (r6 : Rows) : Option (Bool × (ByteArray × ByteArray × ByteArray × (Bool × Rows) × Unit) × Unit) :=
  DM.denFn tm (slices_ContainsFunc_fact_Has_1_Φ n) slices_ContainsFunc_fact_Has_1_lv n Try.f70 false [AV.sl b0 [Kd.s, Kd.s, Kd.s, Kd.sl [Kd.b, Kd.i IntKind.i64, Kd.s]] r1 Right.no, AV.fn 71 [AV.pl 1000 0]] [[AV.dv (DV.val (Value.string s2)), AV.dv (DV.val (Value.string s3)), AV.dv (DV.val (Value.string s4)), AV.sl b5 [Kd.b, Kd.i IntKind.i64, Kd.s] r6 Right.no]] (OSh.chk (OSh.plain (.b) [[.s, .s, .s, .sl [Kd.b, Kd.i IntKind.i64, Kd.s]]]))
theorem slices_ContainsFunc_fact_Has_1_e (n : Nat) (b0 : Bool) (r1 : Rows) (s2 : ByteArray) (s3 : ByteArray) (s4 : ByteArray) (b5 : Bool) (r6 : Rows) : slices_ContainsFunc_fact_Has_1_v n b0 r1 s2 s3 s4 b5 r6 =
  obind (slices_IndexFunc_fact_Has_1_v n b0 r1 s2 s3 s4 b5 r6) fun y7 =>
  some (decide (y7.fst ≥ 0), ((y7.snd.fst.fst, (y7.snd.fst.snd.fst, (y7.snd.fst.snd.snd.fst, ((y7.snd.fst.snd.snd.snd.fst.fst, y7.snd.fst.snd.snd.snd.fst.snd), ())))), ())) := by kernel_rfl
theorem slices_ContainsFunc_fact_Has_1_c (n : Nat) (b0 : Bool) (r1 : Rows) (s2 : ByteArray) (s3 : ByteArray) (s4 : ByteArray) (b5 : Bool) (r6 : Rows) (y : Bool × (ByteArray × ByteArray × ByteArray × (Bool × Rows) × Unit) × Unit) (h : slices_ContainsFunc_fact_Has_1_v n b0 r1 s2 s3 s4 b5 r6 = some y) : Contract Try.prog 70 [AV.sl b0 [Kd.s, Kd.s, Kd.s, Kd.sl [Kd.b, Kd.i IntKind.i64, Kd.s]] r1 Right.no, AV.fn 71 [AV.pl 1000 0]] [[AV.dv (DV.val (Value.string s2)), AV.dv (DV.val (Value.string s3)), AV.dv (DV.val (Value.string s4)), AV.sl b5 [Kd.b, Kd.i IntKind.i64, Kd.s] r6 Right.no]] (OSh.enc (OSh.plain (.b) [[.s, .s, .s, .sl [Kd.b, Kd.i IntKind.i64, Kd.s]]]) y) :=
  auto_okM tm_std (with_ok mixed (by kernel_rfl) (slices_ContainsFunc_fact_Has_1_σok n) n 0 [1000067, 1000069]) (with_pick mixed (by kernel_rfl) (slices_ContainsFunc_fact_Has_1_σok n) n 0 [1000067, 1000069]) mixed Try.func70 (by decide) (o := (OSh.plain (.b) [[.s, .s, .s, .sl [Kd.b, Kd.i IntKind.i64, Kd.s]]])) h
/-! fact_Has: function 32 -/
def fact_Has_lv : Live := []
noncomputable def fact_Has_σ (n : Nat) : Spec := (inst 70 [.sl [Kd.s, Kd.s, Kd.s, Kd.sl [Kd.b, Kd.i IntKind.i64, Kd.s]], .fn 71 [.pl 1000 0]] [[.s, .s, .s, .sl [Kd.b, Kd.i IntKind.i64, Kd.s]]] (OSh.plain (.b) [[.s, .s, .s, .sl [Kd.b, Kd.i IntKind.i64, Kd.s]]]) (fun x e => slices_ContainsFunc_fact_Has_1_v n x.1.1 x.1.2 e.1.1 e.1.2.1 e.1.2.2.1 e.1.2.2.2.1.1 e.1.2.2.2.1.2) Spec.none)
theorem fact_Has_σok (n : Nat) : SpecOk Try.prog (fact_Has_σ n) := (inst_ok (fun x e y h => slices_ContainsFunc_fact_Has_1_c n x.1.1 x.1.2 e.1.1 e.1.2.1 e.1.2.2.1 e.1.2.2.2.1.1 e.1.2.2.2.1.2 y h) (SpecOk.none _))
noncomputable def fact_Has_Φ (n : Nat) : Orc := with_ Try.prog (fact_Has_σ n) [] n 0 [1000067, 1000069]
noncomputable def fact_Has_v (n : Nat) (b0 : Bool) (r1 : Rows) (s2 : ByteArray) (s3 : ByteArray) (s4 : ByteArray) (b5 : Bool) (r6 : Rows) : Option (Bool × Unit) :=
  DM.denFn tm (fact_Has_Φ n) fact_Has_lv n Try.f32 false [AV.sl b0 [Kd.s, Kd.s, Kd.s, Kd.sl [Kd.b, Kd.i IntKind.i64, Kd.s]] r1 Right.no, AV.agg [AV.dv (DV.val (Value.string s2)), AV.dv (DV.val (Value.string s3)), AV.dv (DV.val (Value.string s4)), AV.sl b5 [Kd.b, Kd.i IntKind.i64, Kd.s] r6 Right.no]] [] (OSh.chk (OSh.plain (.b) []))
theorem fact_Has_e (n : Nat) (b0 : Bool) (r1 : Rows) (s2 : ByteArray) (s3 : ByteArray) (s4 : ByteArray) (b5 : Bool) (r6 : Rows) : fact_Has_v n b0 r1 s2 s3 s4 b5 r6 =
  obind (slices_ContainsFunc_fact_Has_1_v n b0 r1 s2 s3 s4 b5 r6) fun y7 =>
  some (y7.fst, ()) := by kernel_rfl
theorem fact_Has_c (n : Nat) (b0 : Bool) (r1 : Rows) (s2 : ByteArray) (s3 : ByteArray) (s4 : ByteArray) (b5 : Bool) (r6 : Rows) (y : Bool × Unit) (h : fact_Has_v n b0 r1 s2 s3 s4 b5 r6 = some y) : Contract Try.prog 32 [AV.sl b0 [Kd.s, Kd.s, Kd.s, Kd.sl [Kd.b, Kd.i IntKind.i64, Kd.s]] r1 Right.no, AV.agg [AV.dv (DV.val (Value.string s2)), AV.dv (DV.val (Value.string s3)), AV.dv (DV.val (Value.string s4)), AV.sl b5 [Kd.b, Kd.i IntKind.i64, Kd.s] r6 Right.no]] [] (OSh.enc (OSh.plain (.b) []) y) :=
  auto_okM tm_std (with_ok mixed (by kernel_rfl) (fact_Has_σok n) n 0 [1000067, 1000069]) (with_pick mixed (by kernel_rfl) (fact_Has_σok n) n 0 [1000067, 1000069]) mixed Try.func32 (by decide) (o := (OSh.plain (.b) [])) h
/-! ref04_Has: function 33 -/
def ref04_Has_lv : Live := [(2, [0, 3, 5], [3, 1000, 1001, 1002, 1003])]
noncomputable def ref04_Has_σ (n : Nat) : Spec := (inst 29 [.agg [.s, .s, .s, .sl [Kd.b, Kd.i IntKind.i64, Kd.s]], .agg [.s, .s, .s, .sl [Kd.b, Kd.i IntKind.i64, Kd.s]]] [] (OSh.plain (.i IntKind.i64) []) (fun x e => ref04_Order_v n x.1.1 x.1.2.1 x.1.2.2.1 x.1.2.2.2.1.1 x.1.2.2.2.1.2 x.2.1.1 x.2.1.2.1 x.2.1.2.2.1 x.2.1.2.2.2.1.1 x.2.1.2.2.2.1.2) Spec.none)
theorem ref04_Has_σok (n : Nat) : SpecOk Try.prog (ref04_Has_σ n) := (inst_ok (fun x e y h => ref04_Order_c n x.1.1 x.1.2.1 x.1.2.2.1 x.1.2.2.2.1.1 x.1.2.2.2.1.2 x.2.1.1 x.2.1.2.1 x.2.1.2.2.1 x.2.1.2.2.2.1.1 x.2.1.2.2.2.1.2 y h) (SpecOk.none _))
noncomputable def ref04_Has_Φ (n : Nat) : Orc := with_ Try.prog (ref04_Has_σ n) [] n 0 [1000067, 1000069]
noncomputable def ref04_Has_v (n : Nat) (b0 : Bool) (r1 : Rows) (s2 : ByteArray) (s3 : ByteArray) (s4 : ByteArray) (b5 : Bool) (r6 : Rows) : Option (Bool × Unit) :=
  DM.denFn tm (ref04_Has_Φ n) ref04_Has_lv n Try.f33 false [AV.sl b0 [Kd.s, Kd.s, Kd.s, Kd.sl [Kd.b, Kd.i IntKind.i64, Kd.s]] r1 Right.no, AV.agg [AV.dv (DV.val (Value.string s2)), AV.dv (DV.val (Value.string s3)), AV.dv (DV.val (Value.string s4)), AV.sl b5 [Kd.b, Kd.i IntKind.i64, Kd.s] r6 Right.no]] [] (OSh.chk (OSh.plain (.b) []))
noncomputable def ref04_Has_l2 (n : Nat) (b0 : Bool) (r1 : Rows) (s2 : ByteArray) (s3 : ByteArray) (s4 : ByteArray) (b5 : Bool) (r6 : Rows) (i0 : Nat) (j8 : Int) : Option (Bool × Unit) :=
  DM.loopFn tm (ref04_Has_Φ n) ref04_Has_lv n Try.f33 false [] (OSh.chk (OSh.plain (.b) [])) 2 [] i0 (St.mk [AV.sl b0 [Kd.s, Kd.s, Kd.s, Kd.sl [Kd.b, Kd.i IntKind.i64, Kd.s]] r1 Right.no, AV.junk, AV.junk, AV.pl 3 0, AV.junk, AV.dv (DV.val (Value.int IntKind.i64 j8)), AV.junk, AV.junk, AV.junk, AV.junk, AV.junk, AV.junk, AV.junk, AV.junk, AV.junk, AV.junk, AV.junk, AV.junk, AV.junk] [(3, [AV.dv (DV.val (Value.string s2)), AV.dv (DV.val (Value.string s3)), AV.dv (DV.val (Value.string s4)), AV.sl b5 [Kd.b, Kd.i IntKind.i64, Kd.s] r6 Right.no])])
theorem ref04_Has_s2 (n : Nat) (b0 : Bool) (r1 : Rows) (s2 : ByteArray) (s3 : ByteArray) (s4 : ByteArray) (b5 : Bool) (r6 : Rows) (i0 : Nat) (j8 : Int) : ref04_Has_l2 n b0 r1 s2 s3 s4 b5 r6 (i0 + 1) j8 =
  bif decide (j8 < (↑(List.length r1) : Int)) then
    if 0 ≤ j8 then
      if j8 < (↑(List.length r1) : Int) then
        obind (ref04_Order_v n (Row.S (List.getD r1 (Int.toNat j8) []) 0) (Row.S (List.getD r1 (Int.toNat j8) []) 1) (Row.S (List.getD r1 (Int.toNat j8) []) 2) (Row.N (List.getD r1 (Int.toNat j8) []) 3) (Row.R (List.getD r1 (Int.toNat j8) []) 3) s2 s3 s4 b5 r6) fun y9 =>
        bif y9.fst == 0 then
          some (true, ())
        else ref04_Has_l2 n b0 r1 s2 s3 s4 b5 r6 i0 (IntKind.wrap IntKind.i64 (j8 + 1))
      else none
    else none
  else some (false, ()) := by kernel_rfl
theorem ref04_Has_e (n : Nat) (b0 : Bool) (r1 : Rows) (s2 : ByteArray) (s3 : ByteArray) (s4 : ByteArray) (b5 : Bool) (r6 : Rows) : ref04_Has_v n b0 r1 s2 s3 s4 b5 r6 =
  ref04_Has_l2 n b0 r1 s2 s3 s4 b5 r6 n 0 := by kernel_rfl
theorem ref04_Has_c (n : Nat) (b0 : Bool) (r1 : Rows) (s2 : ByteArray) (s3 : ByteArray) (s4 : ByteArray) (b5 : Bool) (r6 : Rows) (y : Bool × Unit) (h : ref04_Has_v n b0 r1 s2 s3 s4 b5 r6 = some y) : Contract Try.prog 33 [AV.sl b0 [Kd.s, Kd.s, Kd.s, Kd.sl [Kd.b, Kd.i IntKind.i64, Kd.s]] r1 Right.no, AV.agg [AV.dv (DV.val (Value.string s2)), AV.dv (DV.val (Value.string s3)), AV.dv (DV.val (Value.string s4)), AV.sl b5 [Kd.b, Kd.i IntKind.i64, Kd.s] r6 Right.no]] [] (OSh.enc (OSh.plain (.b) []) y) :=
  auto_okM tm_std (with_ok mixed (by kernel_rfl) (ref04_Has_σok n) n 0 [1000067, 1000069]) (with_pick mixed (by kernel_rfl) (ref04_Has_σok n) n 0 [1000067, 1000069]) mixed Try.func33 (by decide) (o := (OSh.plain (.b) [])) h
/-! fact_Minus_1: function 73 -/
def fact_Minus_1_lv : Live := []
noncomputable def fact_Minus_1_σ (n : Nat) : Spec := (inst 32 [.sl [Kd.s, Kd.s, Kd.s, Kd.sl [Kd.b, Kd.i IntKind.i64, Kd.s]], .agg [.s, .s, .s, .sl [Kd.b, Kd.i IntKind.i64, Kd.s]]] [] (OSh.plain (.b) []) (fun x e => fact_Has_v n x.1.1 x.1.2 x.2.1.1 x.2.1.2.1 x.2.1.2.2.1 x.2.1.2.2.2.1.1 x.2.1.2.2.2.1.2) Spec.none)
theorem fact_Minus_1_σok (n : Nat) : SpecOk Try.prog (fact_Minus_1_σ n) := (inst_ok (fun x e y h => fact_Has_c n x.1.1 x.1.2 x.2.1.1 x.2.1.2.1 x.2.1.2.2.1 x.2.1.2.2.2.1.1 x.2.1.2.2.2.1.2 y h) (SpecOk.none _))
noncomputable def fact_Minus_1_Φ (n : Nat) : Orc := with_ Try.prog (fact_Minus_1_σ n) [] n 0 [1000067, 1000069]
noncomputable def fact_Minus_1_v (n : Nat) (s0 : ByteArray) (s1 : ByteArray) (s2 : ByteArray) (b3 : Bool) (r4 : Rows) (b5 : Bool) (r6 : Rows) : Option (Bool × ((Bool × Rows) × Unit) × Unit) :=
  DM.denFn tm (fact_Minus_1_Φ n) fact_Minus_1_lv n Try.f73 false [AV.agg [AV.dv (DV.val (Value.string s0)), AV.dv (DV.val (Value.string s1)), AV.dv (DV.val (Value.string s2)), AV.sl b3 [Kd.b, Kd.i IntKind.i64, Kd.s] r4 Right.no], AV.pl 1000 0] [[AV.sl b5 [Kd.s, Kd.s, Kd.s, Kd.sl [Kd.b, Kd.i IntKind.i64, Kd.s]] r6 Right.no]] (OSh.chk (OSh.plain (.b) [[.sl [Kd.s, Kd.s, Kd.s, Kd.sl [Kd.b, Kd.i IntKind.i64, Kd.s]]]]))
theorem fact_Minus_1_e (n : Nat) (s0 : ByteArray) (s1 : ByteArray) (s2 : ByteArray) (b3 : Bool) (r4 : Rows) (b5 : Bool) (r6 : Rows) : fact_Minus_1_v n s0 s1 s2 b3 r4 b5 r6 =
  obind (fact_Has_v n b5 r6 s0 s1 s2 b3 r4) fun y7 =>
  some (y7.fst, (((b5, r6), ()), ())) := by kernel_rfl
theorem fact_Minus_1_c (n : Nat) (s0 : ByteArray) (s1 : ByteArray) (s2 : ByteArray) (b3 : Bool) (r4 : Rows) (b5 : Bool) (r6 : Rows) (y : Bool × ((Bool × Rows) × Unit) × Unit) (h : fact_Minus_1_v n s0 s1 s2 b3 r4 b5 r6 = some y) : Contract Try.prog 73 [AV.agg [AV.dv (DV.val (Value.string s0)), AV.dv (DV.val (Value.string s1)), AV.dv (DV.val (Value.string s2)), AV.sl b3 [Kd.b, Kd.i IntKind.i64, Kd.s] r4 Right.no], AV.pl 1000 0] [[AV.sl b5 [Kd.s, Kd.s, Kd.s, Kd.sl [Kd.b, Kd.i IntKind.i64, Kd.s]] r6 Right.no]] (OSh.enc (OSh.plain (.b) [[.sl [Kd.s, Kd.s, Kd.s, Kd.sl [Kd.b, Kd.i IntKind.i64, Kd.s]]]]) y) :=
  auto_okM tm_std (with_ok mixed (by kernel_rfl) (fact_Minus_1_σok n) n 0 [1000067, 1000069]) (with_pick mixed (by kernel_rfl) (fact_Minus_1_σok n) n 0 [1000067, 1000069]) mixed Try.func73 (by decide) (o := (OSh.plain (.b) [[.sl [Kd.s, Kd.s, Kd.s, Kd.sl [Kd.b, Kd.i IntKind.i64, Kd.s]]]])) h
/-! slices_IndexFunc: function 95 -/
def slices_IndexFunc_fact_Minus_1_lv : Live := [(2, [0, 1, 7, 8], [1000, 1001, 1002, 1003])]
noncomputable def slices_IndexFunc_fact_Minus_1_σ (n : Nat) : Spec := (inst 73 [.agg [.s, .s, .s, .sl [Kd.b, Kd.i IntKind.i64, Kd.s]], .pl 1000 0] [[.sl [Kd.s, Kd.s, Kd.s, Kd.sl [Kd.b, Kd.i IntKind.i64, Kd.s]]]] (OSh.plain (.b) [[.sl [Kd.s, Kd.s, Kd.s, Kd.sl [Kd.b, Kd.i IntKind.i64, Kd.s]]]]) (fun x e => fact_Minus_1_v n x.1.1 x.1.2.1 x.1.2.2.1 x.1.2.2.2.1.1 x.1.2.2.2.1.2 e.1.1.1 e.1.1.2) Spec.none)
theorem slices_IndexFunc_fact_Minus_1_σok (n : Nat) : SpecOk Try.prog (slices_IndexFunc_fact_Minus_1_σ n) := (inst_ok (fun x e y h => fact_Minus_1_c n x.1.1 x.1.2.1 x.1.2.2.1 x.1.2.2.2.1.1 x.1.2.2.2.1.2 e.1.1.1 e.1.1.2 y h) (SpecOk.none _))
noncomputable def slices_IndexFunc_fact_Minus_1_Φ (n : Nat) : Orc := with_ Try.prog (slices_IndexFunc_fact_Minus_1_σ n) [] n 0 [1000067, 1000069]
noncomputable def slices_IndexFunc_fact_Minus_1_v (n : Nat) (b0 : Bool) (r1 : Rows) (b2 : Bool) (r3 : Rows) : Option (Int × ((Bool × Rows) × Unit) × Unit) :=
  DM.denFn tm (slices_IndexFunc_fact_Minus_1_Φ n) slices_IndexFunc_fact_Minus_1_lv n Try.f95 false [AV.sl b0 [Kd.s, Kd.s, Kd.s, Kd.sl [Kd.b, Kd.i IntKind.i64, Kd.s]] r1 Right.no, AV.fn 73 [AV.pl 1000 0]] [[AV.sl b2 [Kd.s, Kd.s, Kd.s, Kd.sl [Kd.b, Kd.i IntKind.i64, Kd.s]] r3 Right.no]] (OSh.chk (OSh.plain (.i IntKind.i64) [[.sl [Kd.s, Kd.s, Kd.s, Kd.sl [Kd.b, Kd.i IntKind.i64, Kd.s]]]]))
noncomputable def slices_IndexFunc_fact_Minus_1_l2 (n : Nat) (b0 : Bool) (r1 : Rows) (b2 : Bool) (r3 : Rows) (i0 : Nat) (j5 : Int) (b6 : Bool) (r7 : List (List DV)) : Option (Int × ((Bool × Rows) × Unit) × Unit) :=
  DM.loopFn tm (slices_IndexFunc_fact_Minus_1_Φ n) slices_IndexFunc_fact_Minus_1_lv n Try.f95 false [[AV.sl b2 [Kd.s, Kd.s, Kd.s, Kd.sl [Kd.b, Kd.i IntKind.i64, Kd.s]] r3 Right.no]] (OSh.chk (OSh.plain (.i IntKind.i64) [[.sl [Kd.s, Kd.s, Kd.s, Kd.sl [Kd.b, Kd.i IntKind.i64, Kd.s]]]])) 2 [] i0 (St.mk [AV.sl b0 [Kd.s, Kd.s, Kd.s, Kd.sl [Kd.b, Kd.i IntKind.i64, Kd.s]] r1 Right.no, AV.fn 73 [AV.pl 1000 0], AV.junk, AV.junk, AV.junk, AV.junk, AV.junk, AV.dv (DV.val (Value.int IntKind.i64 (↑(List.length r1) : Int))), AV.dv (DV.val (Value.int IntKind.i64 j5)), AV.junk, AV.junk, AV.junk, AV.junk, AV.junk, AV.junk, AV.junk, AV.junk, AV.junk, AV.junk] [(1000, [AV.sl b6 [Kd.s, Kd.s, Kd.s, Kd.sl [Kd.b, Kd.i IntKind.i64, Kd.s]] r7 Right.no])])
theorem slices_IndexFunc_fact_Minus_1_s2 (n : Nat) (b0 : Bool) (r1 : Rows) (b2 : Bool) (r3 : Rows) (i0 : Nat) (j5 : Int) (b6 : Bool) (r7 : List (List DV)) : slices_IndexFunc_fact_Minus_1_l2 n b0 r1 b2 r3 (i0 + 1) j5 b6 r7 =
  bif decide (j5 < (↑(List.length r1) : Int)) then
    if 0 ≤ j5 then
      if j5 < (↑(List.length r1) : Int) then
        obind (fact_Minus_1_v n (Row.S (List.getD r1 (Int.toNat j5) []) 0) (Row.S (List.getD r1 (Int.toNat j5) []) 1) (Row.S (List.getD r1 (Int.toNat j5) []) 2) (Row.N (List.getD r1 (Int.toNat j5) []) 3) (Row.R (List.getD r1 (Int.toNat j5) []) 3) b6 r7) fun y8 =>
        bif y8.fst then
          some (j5, (((y8.snd.fst.fst.fst, y8.snd.fst.fst.snd), ()), ()))
        else slices_IndexFunc_fact_Minus_1_l2 n b0 r1 b2 r3 i0 (IntKind.wrap IntKind.i64 (j5 + 1)) y8.snd.fst.fst.fst y8.snd.fst.fst.snd
      else none
    else none
  else some (-1, (((b6, r7), ()), ())) := by kernel_rfl
theorem slices_IndexFunc_fact_Minus_1_e (n : Nat) (b0 : Bool) (r1 : Rows) (b2 : Bool) (r3 : Rows) : slices_IndexFunc_fact_Minus_1_v n b0 r1 b2 r3 =
  slices_IndexFunc_fact_Minus_1_l2 n b0 r1 b2 r3 n 0 b2 r3 := by kernel_rfl
theorem slices_IndexFunc_fact_Minus_1_c (n : Nat) (b0 : Bool) (r1 : Rows) (b2 : Bool) (r3 : Rows) (y : Int × ((Bool × Rows) × Unit) × Unit) (h : slices_IndexFunc_fact_Minus_1_v n b0 r1 b2 r3 = some y) : Contract Try.prog 95 [AV.sl b0 [Kd.s, Kd.s, Kd.s, Kd.sl [Kd.b, Kd.i IntKind.i64, Kd.s]] r1 Right.no, AV.fn 73 [AV.pl 1000 0]] [[AV.sl b2 [Kd.s, Kd.s, Kd.s, Kd.sl [Kd.b, Kd.i IntKind.i64, Kd.s]] r3 Right.no]] (OSh.enc (OSh.plain (.i IntKind.i64) [[.sl [Kd.s, Kd.s, Kd.s, Kd.sl [Kd.b, Kd.i IntKind.i64, Kd.s]]]]) y) :=
  auto_okM tm_std (with_ok mixed (by kernel_rfl) (slices_IndexFunc_fact_Minus_1_σok n) n 0 [1000067, 1000069]) (with_pick mixed (by kernel_rfl) (slices_IndexFunc_fact_Minus_1_σok n) n 0 [1000067, 1000069]) mixed Try.func95 (by decide) (o := (OSh.plain (.i IntKind.i64) [[.sl [Kd.s, Kd.s, Kd.s, Kd.sl [Kd.b, Kd.i IntKind.i64, Kd.s]]]])) h
/-! slices_DeleteFunc: function 72 -/
def slices_DeleteFunc_fact_Minus_1_lv : Live := [(5, [0, 1, 5, 6], [1000, 1001, 1002, 1003])]
noncomputable def slices_DeleteFunc_fact_Minus_1_σ (n : Nat) : Spec := (inst 95 [.sl [Kd.s, Kd.s, Kd.s, Kd.sl [Kd.b, Kd.i IntKind.i64, Kd.s]], .fn 73 [.pl 1000 0]] [[.sl [Kd.s, Kd.s, Kd.s, Kd.sl [Kd.b, Kd.i IntKind.i64, Kd.s]]]] (OSh.plain (.i IntKind.i64) [[.sl [Kd.s, Kd.s, Kd.s, Kd.sl [Kd.b, Kd.i IntKind.i64, Kd.s]]]]) (fun x e => slices_IndexFunc_fact_Minus_1_v n x.1.1 x.1.2 e.1.1.1 e.1.1.2) (inst 73 [.agg [.s, .s, .s, .sl [Kd.b, Kd.i IntKind.i64, Kd.s]], .pl 1000 0] [[.sl [Kd.s, Kd.s, Kd.s, Kd.sl [Kd.b, Kd.i IntKind.i64, Kd.s]]]] (OSh.plain (.b) [[.sl [Kd.s, Kd.s, Kd.s, Kd.sl [Kd.b, Kd.i IntKind.i64, Kd.s]]]]) (fun x e => fact_Minus_1_v n x.1.1 x.1.2.1 x.1.2.2.1 x.1.2.2.2.1.1 x.1.2.2.2.1.2 e.1.1.1 e.1.1.2) Spec.none))
theorem slices_DeleteFunc_fact_Minus_1_σok (n : Nat) : SpecOk Try.prog (slices_DeleteFunc_fact_Minus_1_σ n) := (inst_ok (fun x e y h => slices_IndexFunc_fact_Minus_1_c n x.1.1 x.1.2 e.1.1.1 e.1.1.2 y h) (inst_ok (fun x e y h => fact_Minus_1_c n x.1.1 x.1.2.1 x.1.2.2.1 x.1.2.2.2.1.1 x.1.2.2.2.1.2 e.1.1.1 e.1.1.2 y h) (SpecOk.none _)))
noncomputable def slices_DeleteFunc_fact_Minus_1_Φ (n : Nat) : Orc := with_ Try.prog (slices_DeleteFunc_fact_Minus_1_σ n) [] n 0 [1000067, 1000069]
noncomputable def slices_DeleteFunc_fact_Minus_1_v (n : Nat) (b0 : Bool) (r1 : Rows) (b2 : Bool) (r3 : Rows) : Option ((Bool × Rows) × ((Bool × Rows) × Unit) × Unit) :=
  DM.denFn tm (slices_DeleteFunc_fact_Minus_1_Φ n) slices_DeleteFunc_fact_Minus_1_lv n Try.f72 false [AV.sl b0 [Kd.s, Kd.s, Kd.s, Kd.sl [Kd.b, Kd.i IntKind.i64, Kd.s]] r1 Right.no, AV.fn 73 [AV.pl 1000 0]] [[AV.sl b2 [Kd.s, Kd.s, Kd.s, Kd.sl [Kd.b, Kd.i IntKind.i64, Kd.s]] r3 Right.no]] (OSh.chk (OSh.plain (.sl [Kd.s, Kd.s, Kd.s, Kd.sl [Kd.b, Kd.i IntKind.i64, Kd.s]]) [[.sl [Kd.s, Kd.s, Kd.s, Kd.sl [Kd.b, Kd.i IntKind.i64, Kd.s]]]]))
noncomputable def slices_DeleteFunc_fact_Minus_1_l5 (n : Nat) (b0 : Bool) (r1 : Rows) (b2 : Bool) (r3 : Rows) (i0 : Nat) (j5 : Int) (j6 : Int) (b7 : Bool) (r8 : List (List DV)) : Option ((Bool × Rows) × ((Bool × Rows) × Unit) × Unit) :=
  DM.loopFn tm (slices_DeleteFunc_fact_Minus_1_Φ n) slices_DeleteFunc_fact_Minus_1_lv n Try.f72 false [[AV.sl b2 [Kd.s, Kd.s, Kd.s, Kd.sl [Kd.b, Kd.i IntKind.i64, Kd.s]] r3 Right.no]] (OSh.chk (OSh.plain (.sl [Kd.s, Kd.s, Kd.s, Kd.sl [Kd.b, Kd.i IntKind.i64, Kd.s]]) [[.sl [Kd.s, Kd.s, Kd.s, Kd.sl [Kd.b, Kd.i IntKind.i64, Kd.s]]]])) 5 [] i0 (St.mk [AV.sl b0 [Kd.s, Kd.s, Kd.s, Kd.sl [Kd.b, Kd.i IntKind.i64, Kd.s]] r1 Right.no, AV.fn 73 [AV.pl 1000 0], AV.junk, AV.junk, AV.junk, AV.dv (DV.val (Value.int IntKind.i64 j5)), AV.dv (DV.val (Value.int IntKind.i64 j6)), AV.junk, AV.junk, AV.junk, AV.junk, AV.junk, AV.junk, AV.junk, AV.junk, AV.junk, AV.junk, AV.junk, AV.junk, AV.junk, AV.junk, AV.junk, AV.junk, AV.junk, AV.junk, AV.junk, AV.junk, AV.junk, AV.junk, AV.junk, AV.junk, AV.junk, AV.junk, AV.junk, AV.junk, AV.junk, AV.junk, AV.junk, AV.junk, AV.junk, AV.junk, AV.junk] [(1000, [AV.sl b7 [Kd.s, Kd.s, Kd.s, Kd.sl [Kd.b, Kd.i IntKind.i64, Kd.s]] r8 Right.no])])
theorem slices_DeleteFunc_fact_Minus_1_s5 (n : Nat) (b0 : Bool) (r1 : Rows) (b2 : Bool) (r3 : Rows) (i0 : Nat) (j5 : Int) (j6 : Int) (b7 : Bool) (r8 : List (List DV)) : slices_DeleteFunc_fact_Minus_1_l5 n b0 r1 b2 r3 (i0 + 1) j5 j6 b7 r8 =
  bif decide (j6 < (↑(List.length r1) : Int)) then
    if 0 ≤ j6 then
      if j6 < (↑(List.length r1) : Int) then
        obind (fact_Minus_1_v n (Row.S (List.getD r1 (Int.toNat j6) []) 0) (Row.S (List.getD r1 (Int.toNat j6) []) 1) (Row.S (List.getD r1 (Int.toNat j6) []) 2) (Row.N (List.getD r1 (Int.toNat j6) []) 3) (Row.R (List.getD r1 (Int.toNat j6) []) 3) b7 r8) fun y9 =>
        bif !y9.fst then
          if 0 ≤ j5 then
            if j5 < (↑(List.length r1) : Int) then
              none
            else none
          else none
        else slices_DeleteFunc_fact_Minus_1_l5 n b0 r1 b2 r3 i0 j5 (IntKind.wrap IntKind.i64 (j6 + 1)) y9.snd.fst.fst.fst y9.snd.fst.fst.snd
      else none
    else none
  else if 0 ≤ j5 then
    if j5 ≤ (↑(List.length r1) : Int) then
      if (↑(List.length r1) : Int) ≤ (↑(List.length r1) : Int) then
        none
      else none
    else none
  else none := by kernel_rfl
theorem slices_DeleteFunc_fact_Minus_1_e (n : Nat) (b0 : Bool) (r1 : Rows) (b2 : Bool) (r3 : Rows) : slices_DeleteFunc_fact_Minus_1_v n b0 r1 b2 r3 =
  obind (slices_IndexFunc_fact_Minus_1_v n b0 r1 b2 r3) fun y4 =>
  bif y4.fst == -1 then
    some ((b0, r1), (((y4.snd.fst.fst.fst, y4.snd.fst.fst.snd), ()), ()))
  else slices_DeleteFunc_fact_Minus_1_l5 n b0 r1 b2 r3 n y4.fst (IntKind.wrap IntKind.i64 (y4.fst + 1)) y4.snd.fst.fst.fst y4.snd.fst.fst.snd := by kernel_rfl
theorem slices_DeleteFunc_fact_Minus_1_c (n : Nat) (b0 : Bool) (r1 : Rows) (b2 : Bool) (r3 : Rows) (y : (Bool × Rows) × ((Bool × Rows) × Unit) × Unit) (h : slices_DeleteFunc_fact_Minus_1_v n b0 r1 b2 r3 = some y) : Contract Try.prog 72 [AV.sl b0 [Kd.s, Kd.s, Kd.s, Kd.sl [Kd.b, Kd.i IntKind.i64, Kd.s]] r1 Right.no, AV.fn 73 [AV.pl 1000 0]] [[AV.sl b2 [Kd.s, Kd.s, Kd.s, Kd.sl [Kd.b, Kd.i IntKind.i64, Kd.s]] r3 Right.no]] (OSh.enc (OSh.plain (.sl [Kd.s, Kd.s, Kd.s, Kd.sl [Kd.b, Kd.i IntKind.i64, Kd.s]]) [[.sl [Kd.s, Kd.s, Kd.s, Kd.sl [Kd.b, Kd.i IntKind.i64, Kd.s]]]]) y) :=
  auto_okM tm_std (with_ok mixed (by kernel_rfl) (slices_DeleteFunc_fact_Minus_1_σok n) n 0 [1000067, 1000069]) (with_pick mixed (by kernel_rfl) (slices_DeleteFunc_fact_Minus_1_σok n) n 0 [1000067, 1000069]) mixed Try.func72 (by decide) (o := (OSh.plain (.sl [Kd.s, Kd.s, Kd.s, Kd.sl [Kd.b, Kd.i IntKind.i64, Kd.s]]) [[.sl [Kd.s, Kd.s, Kd.s, Kd.sl [Kd.b, Kd.i IntKind.i64, Kd.s]]]])) h
/-! slices_IndexFunc: function 95 -/
def slices_IndexFunc_mz_fact_Minus_1_lv : Live := [(2, [0, 1, 7, 8], [1000, 1001, 1002, 1003])]
noncomputable def slices_IndexFunc_mz_fact_Minus_1_σ (n : Nat) : Spec := (inst 73 [.agg [.s, .s, .s, .sl [Kd.b, Kd.i IntKind.i64, Kd.s]], .pl 1000 0] [[.sl [Kd.s, Kd.s, Kd.s, Kd.sl [Kd.b, Kd.i IntKind.i64, Kd.s]]]] (OSh.plain (.b) [[.sl [Kd.s, Kd.s, Kd.s, Kd.sl [Kd.b, Kd.i IntKind.i64, Kd.s]]]]) (fun x e => fact_Minus_1_v n x.1.1 x.1.2.1 x.1.2.2.1 x.1.2.2.2.1.1 x.1.2.2.2.1.2 e.1.1.1 e.1.1.2) Spec.none)
theorem slices_IndexFunc_mz_fact_Minus_1_σok (n : Nat) : SpecOk Try.prog (slices_IndexFunc_mz_fact_Minus_1_σ n) := (inst_ok (fun x e y h => fact_Minus_1_c n x.1.1 x.1.2.1 x.1.2.2.1 x.1.2.2.2.1.1 x.1.2.2.2.1.2 e.1.1.1 e.1.1.2 y h) (SpecOk.none _))
noncomputable def slices_IndexFunc_mz_fact_Minus_1_Φ (n : Nat) : Orc := with_ Try.prog (slices_IndexFunc_mz_fact_Minus_1_σ n) [] n 0 [1000067, 1000069]
noncomputable def slices_IndexFunc_mz_fact_Minus_1_v (n : Nat) (m0 : Nat) (m1 : Nat) (r2 : Rows) (b3 : Bool) (r4 : Rows) : Option (Int × (Rows × Unit) × ((Bool × Rows) × Unit) × Unit) :=
  DM.denFn tm (slices_IndexFunc_mz_fact_Minus_1_Φ n) slices_IndexFunc_mz_fact_Minus_1_lv n Try.f95 false [AV.ms 1000 [Kd.s, Kd.s, Kd.s, Kd.sl [Kd.b, Kd.i IntKind.i64, Kd.s]] 0 m0 m1, AV.fn 73 [AV.pl 1001 0]] [[AV.arr [Kd.s, Kd.s, Kd.s, Kd.sl [Kd.b, Kd.i IntKind.i64, Kd.s]] r2], [AV.sl b3 [Kd.s, Kd.s, Kd.s, Kd.sl [Kd.b, Kd.i IntKind.i64, Kd.s]] r4 Right.no]] (OSh.chk (OSh.plain (.i IntKind.i64) [[.arr [Kd.s, Kd.s, Kd.s, Kd.sl [Kd.b, Kd.i IntKind.i64, Kd.s]]], [.sl [Kd.s, Kd.s, Kd.s, Kd.sl [Kd.b, Kd.i IntKind.i64, Kd.s]]]]))
noncomputable def slices_IndexFunc_mz_fact_Minus_1_l2 (n : Nat) (m0 : Nat) (m1 : Nat) (r2 : Rows) (b3 : Bool) (r4 : Rows) (i0 : Nat) (j6 : Int) (b7 : Bool) (r8 : List (List DV)) : Option (Int × (Rows × Unit) × ((Bool × Rows) × Unit) × Unit) :=
  DM.loopFn tm (slices_IndexFunc_mz_fact_Minus_1_Φ n) slices_IndexFunc_mz_fact_Minus_1_lv n Try.f95 false [[AV.arr [Kd.s, Kd.s, Kd.s, Kd.sl [Kd.b, Kd.i IntKind.i64, Kd.s]] r2], [AV.sl b3 [Kd.s, Kd.s, Kd.s, Kd.sl [Kd.b, Kd.i IntKind.i64, Kd.s]] r4 Right.no]] (OSh.chk (OSh.plain (.i IntKind.i64) [[.arr [Kd.s, Kd.s, Kd.s, Kd.sl [Kd.b, Kd.i IntKind.i64, Kd.s]]], [.sl [Kd.s, Kd.s, Kd.s, Kd.sl [Kd.b, Kd.i IntKind.i64, Kd.s]]]])) 2 [] i0 (St.mk [AV.ms 1000 [Kd.s, Kd.s, Kd.s, Kd.sl [Kd.b, Kd.i IntKind.i64, Kd.s]] 0 m0 m1, AV.fn 73 [AV.pl 1001 0], AV.junk, AV.junk, AV.junk, AV.junk, AV.junk, AV.dv (DV.val (Value.int IntKind.i64 (↑m0 : Int))), AV.dv (DV.val (Value.int IntKind.i64 j6)), AV.junk, AV.junk, AV.junk, AV.junk, AV.junk, AV.junk, AV.junk, AV.junk, AV.junk, AV.junk] [(1000, [AV.arr [Kd.s, Kd.s, Kd.s, Kd.sl [Kd.b, Kd.i IntKind.i64, Kd.s]] r2]), (1001, [AV.sl b7 [Kd.s, Kd.s, Kd.s, Kd.sl [Kd.b, Kd.i IntKind.i64, Kd.s]] r8 Right.no])])
theorem slices_IndexFunc_mz_fact_Minus_1_s2 (n : Nat) (m0 : Nat) (m1 : Nat) (r2 : Rows) (b3 : Bool) (r4 : Rows) (i0 : Nat) (j6 : Int) (b7 : Bool) (r8 : List (List DV)) : slices_IndexFunc_mz_fact_Minus_1_l2 n m0 m1 r2 b3 r4 (i0 + 1) j6 b7 r8 =
  bif decide (j6 < (↑m0 : Int)) then
    if 0 ≤ j6 then
      if j6 < (↑m0 : Int) then
        if 0 + Int.toNat j6 < List.length r2 then
          obind (fact_Minus_1_v n (Row.S (List.getD r2 (0 + Int.toNat j6) []) 0) (Row.S (List.getD r2 (0 + Int.toNat j6) []) 1) (Row.S (List.getD r2 (0 + Int.toNat j6) []) 2) (Row.N (List.getD r2 (0 + Int.toNat j6) []) 3) (Row.R (List.getD r2 (0 + Int.toNat j6) []) 3) b7 r8) fun y9 =>
          bif y9.fst then
            some (j6, ((r2, ()), (((y9.snd.fst.fst.fst, y9.snd.fst.fst.snd), ()), ())))
          else slices_IndexFunc_mz_fact_Minus_1_l2 n m0 m1 r2 b3 r4 i0 (IntKind.wrap IntKind.i64 (j6 + 1)) y9.snd.fst.fst.fst y9.snd.fst.fst.snd
        else none
      else none
    else none
  else some (-1, ((r2, ()), (((b7, r8), ()), ()))) := by kernel_rfl
theorem slices_IndexFunc_mz_fact_Minus_1_e (n : Nat) (m0 : Nat) (m1 : Nat) (r2 : Rows) (b3 : Bool) (r4 : Rows) : slices_IndexFunc_mz_fact_Minus_1_v n m0 m1 r2 b3 r4 =
  slices_IndexFunc_mz_fact_Minus_1_l2 n m0 m1 r2 b3 r4 n 0 b3 r4 := by kernel_rfl
theorem slices_IndexFunc_mz_fact_Minus_1_c (n : Nat) (m0 : Nat) (m1 : Nat) (r2 : Rows) (b3 : Bool) (r4 : Rows) (y : Int × (Rows × Unit) × ((Bool × Rows) × Unit) × Unit) (h : slices_IndexFunc_mz_fact_Minus_1_v n m0 m1 r2 b3 r4 = some y) : Contract Try.prog 95 [AV.ms 1000 [Kd.s, Kd.s, Kd.s, Kd.sl [Kd.b, Kd.i IntKind.i64, Kd.s]] 0 m0 m1, AV.fn 73 [AV.pl 1001 0]] [[AV.arr [Kd.s, Kd.s, Kd.s, Kd.sl [Kd.b, Kd.i IntKind.i64, Kd.s]] r2], [AV.sl b3 [Kd.s, Kd.s, Kd.s, Kd.sl [Kd.b, Kd.i IntKind.i64, Kd.s]] r4 Right.no]] (OSh.enc (OSh.plain (.i IntKind.i64) [[.arr [Kd.s, Kd.s, Kd.s, Kd.sl [Kd.b, Kd.i IntKind.i64, Kd.s]]], [.sl [Kd.s, Kd.s, Kd.s, Kd.sl [Kd.b, Kd.i IntKind.i64, Kd.s]]]]) y) :=
  auto_okM tm_std (with_ok mixed (by kernel_rfl) (slices_IndexFunc_mz_fact_Minus_1_σok n) n 0 [1000067, 1000069]) (with_pick mixed (by kernel_rfl) (slices_IndexFunc_mz_fact_Minus_1_σok n) n 0 [1000067, 1000069]) mixed Try.func95 (by decide) (o := (OSh.plain (.i IntKind.i64) [[.arr [Kd.s, Kd.s, Kd.s, Kd.sl [Kd.b, Kd.i IntKind.i64, Kd.s]]], [.sl [Kd.s, Kd.s, Kd.s, Kd.sl [Kd.b, Kd.i IntKind.i64, Kd.s]]]])) h
/-! slices_DeleteFunc: function 72 -/
def slices_DeleteFunc_mz_fact_Minus_1_lv : Live := [(5, [0, 1, 5, 6], [1000, 1001, 1002, 1003])]
noncomputable def slices_DeleteFunc_mz_fact_Minus_1_σ (n : Nat) : Spec := (inst 95 [.ms0 1000 [Kd.s, Kd.s, Kd.s, Kd.sl [Kd.b, Kd.i IntKind.i64, Kd.s]], .fn 73 [.pl 1001 0]] [[.arr [Kd.s, Kd.s, Kd.s, Kd.sl [Kd.b, Kd.i IntKind.i64, Kd.s]]], [.sl [Kd.s, Kd.s, Kd.s, Kd.sl [Kd.b, Kd.i IntKind.i64, Kd.s]]]] (OSh.plain (.i IntKind.i64) [[.arr [Kd.s, Kd.s, Kd.s, Kd.sl [Kd.b, Kd.i IntKind.i64, Kd.s]]], [.sl [Kd.s, Kd.s, Kd.s, Kd.sl [Kd.b, Kd.i IntKind.i64, Kd.s]]]]) (fun x e => slices_IndexFunc_mz_fact_Minus_1_v n x.1.1 x.1.2 e.1.1 e.2.1.1.1 e.2.1.1.2) (inst 73 [.agg [.s, .s, .s, .sl [Kd.b, Kd.i IntKind.i64, Kd.s]], .pl 1000 0] [[.sl [Kd.s, Kd.s, Kd.s, Kd.sl [Kd.b, Kd.i IntKind.i64, Kd.s]]]] (OSh.plain (.b) [[.sl [Kd.s, Kd.s, Kd.s, Kd.sl [Kd.b, Kd.i IntKind.i64, Kd.s]]]]) (fun x e => fact_Minus_1_v n x.1.1 x.1.2.1 x.1.2.2.1 x.1.2.2.2.1.1 x.1.2.2.2.1.2 e.1.1.1 e.1.1.2) Spec.none))
theorem slices_DeleteFunc_mz_fact_Minus_1_σok (n : Nat) : SpecOk Try.prog (slices_DeleteFunc_mz_fact_Minus_1_σ n) := (inst_ok (fun x e y h => slices_IndexFunc_mz_fact_Minus_1_c n x.1.1 x.1.2 e.1.1 e.2.1.1.1 e.2.1.1.2 y h) (inst_ok (fun x e y h => fact_Minus_1_c n x.1.1 x.1.2.1 x.1.2.2.1 x.1.2.2.2.1.1 x.1.2.2.2.1.2 e.1.1.1 e.1.1.2 y h) (SpecOk.none _)))
noncomputable def slices_DeleteFunc_mz_fact_Minus_1_Φ (n : Nat) : Orc := with_ Try.prog (slices_DeleteFunc_mz_fact_Minus_1_σ n) [] n 0 [1000067, 1000069]
noncomputable def slices_DeleteFunc_mz_fact_Minus_1_v (n : Nat) (m0 : Nat) (m1 : Nat) (r2 : Rows) (b3 : Bool) (r4 : Rows) : Option ((Nat × Nat) × (Rows × Unit) × ((Bool × Rows) × Unit) × Unit) :=
  DM.denFn tm (slices_DeleteFunc_mz_fact_Minus_1_Φ n) slices_DeleteFunc_mz_fact_Minus_1_lv n Try.f72 false [AV.ms 1000 [Kd.s, Kd.s, Kd.s, Kd.sl [Kd.b, Kd.i IntKind.i64, Kd.s]] 0 m0 m1, AV.fn 73 [AV.pl 1001 0]] [[AV.arr [Kd.s, Kd.s, Kd.s, Kd.sl [Kd.b, Kd.i IntKind.i64, Kd.s]] r2], [AV.sl b3 [Kd.s, Kd.s, Kd.s, Kd.sl [Kd.b, Kd.i IntKind.i64, Kd.s]] r4 Right.no]] (OSh.chk (OSh.plain (.ms0 1000 [Kd.s, Kd.s, Kd.s, Kd.sl [Kd.b, Kd.i IntKind.i64, Kd.s]]) [[.arr [Kd.s, Kd.s, Kd.s, Kd.sl [Kd.b, Kd.i IntKind.i64, Kd.s]]], [.sl [Kd.s, Kd.s, Kd.s, Kd.sl [Kd.b, Kd.i IntKind.i64, Kd.s]]]]))
noncomputable def slices_DeleteFunc_mz_fact_Minus_1_l5 (n : Nat) (m0 : Nat) (m1 : Nat) (r2 : Rows) (b3 : Bool) (r4 : Rows) (i0 : Nat) (j6 : Int) (j7 : Int) (r8 : List (List DV)) (b9 : Bool) (r10 : List (List DV)) : Option ((Nat × Nat) × (Rows × Unit) × ((Bool × Rows) × Unit) × Unit) :=
  DM.loopFn tm (slices_DeleteFunc_mz_fact_Minus_1_Φ n) slices_DeleteFunc_mz_fact_Minus_1_lv n Try.f72 false [[AV.arr [Kd.s, Kd.s, Kd.s, Kd.sl [Kd.b, Kd.i IntKind.i64, Kd.s]] r2], [AV.sl b3 [Kd.s, Kd.s, Kd.s, Kd.sl [Kd.b, Kd.i IntKind.i64, Kd.s]] r4 Right.no]] (OSh.chk (OSh.plain (.ms0 1000 [Kd.s, Kd.s, Kd.s, Kd.sl [Kd.b, Kd.i IntKind.i64, Kd.s]]) [[.arr [Kd.s, Kd.s, Kd.s, Kd.sl [Kd.b, Kd.i IntKind.i64, Kd.s]]], [.sl [Kd.s, Kd.s, Kd.s, Kd.sl [Kd.b, Kd.i IntKind.i64, Kd.s]]]])) 5 [] i0 (St.mk [AV.ms 1000 [Kd.s, Kd.s, Kd.s, Kd.sl [Kd.b, Kd.i IntKind.i64, Kd.s]] 0 m0 m1, AV.fn 73 [AV.pl 1001 0], AV.junk, AV.junk, AV.junk, AV.dv (DV.val (Value.int IntKind.i64 j6)), AV.dv (DV.val (Value.int IntKind.i64 j7)), AV.junk, AV.junk, AV.junk, AV.junk, AV.junk, AV.junk, AV.junk, AV.junk, AV.junk, AV.junk, AV.junk, AV.junk, AV.junk, AV.junk, AV.junk, AV.junk, AV.junk, AV.junk, AV.junk, AV.junk, AV.junk, AV.junk, AV.junk, AV.junk, AV.junk, AV.junk, AV.junk, AV.junk, AV.junk, AV.junk, AV.junk, AV.junk, AV.junk, AV.junk, AV.junk] [(1000, [AV.arr [Kd.s, Kd.s, Kd.s, Kd.sl [Kd.b, Kd.i IntKind.i64, Kd.s]] r8]), (1001, [AV.sl b9 [Kd.s, Kd.s, Kd.s, Kd.sl [Kd.b, Kd.i IntKind.i64, Kd.s]] r10 Right.no])])
theorem slices_DeleteFunc_mz_fact_Minus_1_s5 (n : Nat) (m0 : Nat) (m1 : Nat) (r2 : Rows) (b3 : Bool) (r4 : Rows) (i0 : Nat) (j6 : Int) (j7 : Int) (r8 : List (List DV)) (b9 : Bool) (r10 : List (List DV)) : slices_DeleteFunc_mz_fact_Minus_1_l5 n m0 m1 r2 b3 r4 (i0 + 1) j6 j7 r8 b9 r10 =
  bif decide (j7 < (↑m0 : Int)) then
    if 0 ≤ j7 then
      if j7 < (↑m0 : Int) then
        if 0 + Int.toNat j7 < List.length r8 then
          obind (fact_Minus_1_v n (Row.S (List.getD r8 (0 + Int.toNat j7) []) 0) (Row.S (List.getD r8 (0 + Int.toNat j7) []) 1) (Row.S (List.getD r8 (0 + Int.toNat j7) []) 2) (Row.N (List.getD r8 (0 + Int.toNat j7) []) 3) (Row.R (List.getD r8 (0 + Int.toNat j7) []) 3) b9 r10) fun y11 =>
          bif !y11.fst then
            if 0 ≤ j6 then
              if j6 < (↑m0 : Int) then
                if 0 + Int.toNat j6 < List.length r8 then
                  slices_DeleteFunc_mz_fact_Minus_1_l5 n m0 m1 r2 b3 r4 i0 (IntKind.wrap IntKind.i64 (j6 + 1)) (IntKind.wrap IntKind.i64 (j7 + 1)) (List.set r8 (0 + Int.toNat j6) (DV.val (Value.string (Row.S (List.getD r8 (0 + Int.toNat j7) []) 0)) :: DV.val (Value.string (Row.S (List.getD r8 (0 + Int.toNat j7) []) 1)) :: DV.val (Value.string (Row.S (List.getD r8 (0 + Int.toNat j7) []) 2)) :: DV.sl (Row.N (List.getD r8 (0 + Int.toNat j7) []) 3) [Kd.b, Kd.i IntKind.i64, Kd.s] (Row.R (List.getD r8 (0 + Int.toNat j7) []) 3) :: List.drop (0 + List.length [DV.val (Value.string (Row.S (List.getD r8 (0 + Int.toNat j7) []) 0)), DV.val (Value.string (Row.S (List.getD r8 (0 + Int.toNat j7) []) 1)), DV.val (Value.string (Row.S (List.getD r8 (0 + Int.toNat j7) []) 2)), DV.sl (Row.N (List.getD r8 (0 + Int.toNat j7) []) 3) [Kd.b, Kd.i IntKind.i64, Kd.s] (Row.R (List.getD r8 (0 + Int.toNat j7) []) 3)]) (List.getD r8 (0 + Int.toNat j6) []))) y11.snd.fst.fst.fst y11.snd.fst.fst.snd
                else none
              else none
            else none
          else slices_DeleteFunc_mz_fact_Minus_1_l5 n m0 m1 r2 b3 r4 i0 j6 (IntKind.wrap IntKind.i64 (j7 + 1)) r8 y11.snd.fst.fst.fst y11.snd.fst.fst.snd
        else none
      else none
    else none
  else if 0 ≤ j6 then
    if j6 ≤ (↑m0 : Int) then
      if (↑m0 : Int) ≤ (↑m1 : Int) then
        if 0 + Int.toNat j6 + (Int.toNat (↑m0 : Int) - Int.toNat j6) ≤ List.length r8 then
          if 0 ≤ j6 then
            if j6 ≤ (↑m1 : Int) then
              some ((Int.toNat j6 - 0, m1 - 0), ((List.take (0 + Int.toNat j6) r8 ++ List.replicate (Int.toNat (↑m0 : Int) - Int.toNat j6) [DV.val (Value.string (ByteArray.mk #[])), DV.val (Value.string (ByteArray.mk #[])), DV.val (Value.string (ByteArray.mk #[])), DV.sl true [Kd.b, Kd.i IntKind.i64, Kd.s] []] ++ List.drop (0 + Int.toNat j6 + (Int.toNat (↑m0 : Int) - Int.toNat j6)) r8, ()), (((b9, r10), ()), ())))
            else none
          else none
        else none
      else none
    else none
  else none := by kernel_rfl
theorem slices_DeleteFunc_mz_fact_Minus_1_e (n : Nat) (m0 : Nat) (m1 : Nat) (r2 : Rows) (b3 : Bool) (r4 : Rows) : slices_DeleteFunc_mz_fact_Minus_1_v n m0 m1 r2 b3 r4 =
  obind (slices_IndexFunc_mz_fact_Minus_1_v n m0 m1 r2 b3 r4) fun y5 =>
  bif y5.fst == -1 then
    some ((m0, m1), ((y5.snd.fst.fst, ()), (((y5.snd.snd.fst.fst.fst, y5.snd.snd.fst.fst.snd), ()), ())))
  else slices_DeleteFunc_mz_fact_Minus_1_l5 n m0 m1 r2 b3 r4 n y5.fst (IntKind.wrap IntKind.i64 (y5.fst + 1)) y5.snd.fst.fst y5.snd.snd.fst.fst.fst y5.snd.snd.fst.fst.snd := by kernel_rfl
theorem slices_DeleteFunc_mz_fact_Minus_1_c (n : Nat) (m0 : Nat) (m1 : Nat) (r2 : Rows) (b3 : Bool) (r4 : Rows) (y : (Nat × Nat) × (Rows × Unit) × ((Bool × Rows) × Unit) × Unit) (h : slices_DeleteFunc_mz_fact_Minus_1_v n m0 m1 r2 b3 r4 = some y) : Contract Try.prog 72 [AV.ms 1000 [Kd.s, Kd.s, Kd.s, Kd.sl [Kd.b, Kd.i IntKind.i64, Kd.s]] 0 m0 m1, AV.fn 73 [AV.pl 1001 0]] [[AV.arr [Kd.s, Kd.s, Kd.s, Kd.sl [Kd.b, Kd.i IntKind.i64, Kd.s]] r2], [AV.sl b3 [Kd.s, Kd.s, Kd.s, Kd.sl [Kd.b, Kd.i IntKind.i64, Kd.s]] r4 Right.no]] (OSh.enc (OSh.plain (.ms0 1000 [Kd.s, Kd.s, Kd.s, Kd.sl [Kd.b, Kd.i IntKind.i64, Kd.s]]) [[.arr [Kd.s, Kd.s, Kd.s, Kd.sl [Kd.b, Kd.i IntKind.i64, Kd.s]]], [.sl [Kd.s, Kd.s, Kd.s, Kd.sl [Kd.b, Kd.i IntKind.i64, Kd.s]]]]) y) :=
  auto_okM tm_std (with_ok mixed (by kernel_rfl) (slices_DeleteFunc_mz_fact_Minus_1_σok n) n 0 [1000067, 1000069]) (with_pick mixed (by kernel_rfl) (slices_DeleteFunc_mz_fact_Minus_1_σok n) n 0 [1000067, 1000069]) mixed Try.func72 (by decide) (o := (OSh.plain (.ms0 1000 [Kd.s, Kd.s, Kd.s, Kd.sl [Kd.b, Kd.i IntKind.i64, Kd.s]]) [[.arr [Kd.s, Kd.s, Kd.s, Kd.sl [Kd.b, Kd.i IntKind.i64, Kd.s]]], [.sl [Kd.s, Kd.s, Kd.s, Kd.sl [Kd.b, Kd.i IntKind.i64, Kd.s]]]])) h
/-! fact_Minus: function 34 -/
def fact_Minus_lv : Live := [(3000008, [0, 6, 6], []), (1999998, [1, 4], []), (999999, [], [])]
noncomputable def fact_Minus_σ (n : Nat) : Spec := (inst 23 [.sl [Kd.s, Kd.s, Kd.s, Kd.sl [Kd.b, Kd.i IntKind.i64, Kd.s]]] [] (OSh.plain (.slt [Kd.s, Kd.s, Kd.s, Kd.sl [Kd.b, Kd.i IntKind.i64, Kd.s]] 0) []) (fun x e => fact_Sorted_v n x.1.1 x.1.2) (inst 72 [.sl [Kd.s, Kd.s, Kd.s, Kd.sl [Kd.b, Kd.i IntKind.i64, Kd.s]], .fn 73 [.pl 1000 0]] [[.sl [Kd.s, Kd.s, Kd.s, Kd.sl [Kd.b, Kd.i IntKind.i64, Kd.s]]]] (OSh.plain (.sl [Kd.s, Kd.s, Kd.s, Kd.sl [Kd.b, Kd.i IntKind.i64, Kd.s]]) [[.sl [Kd.s, Kd.s, Kd.s, Kd.sl [Kd.b, Kd.i IntKind.i64, Kd.s]]]]) (fun x e => slices_DeleteFunc_fact_Minus_1_v n x.1.1 x.1.2 e.1.1.1 e.1.1.2) (inst 72 [.ms0 1000 [Kd.s, Kd.s, Kd.s, Kd.sl [Kd.b, Kd.i IntKind.i64, Kd.s]], .fn 73 [.pl 1001 0]] [[.arr [Kd.s, Kd.s, Kd.s, Kd.sl [Kd.b, Kd.i IntKind.i64, Kd.s]]], [.sl [Kd.s, Kd.s, Kd.s, Kd.sl [Kd.b, Kd.i IntKind.i64, Kd.s]]]] (OSh.plain (.ms0 1000 [Kd.s, Kd.s, Kd.s, Kd.sl [Kd.b, Kd.i IntKind.i64, Kd.s]]) [[.arr [Kd.s, Kd.s, Kd.s, Kd.sl [Kd.b, Kd.i IntKind.i64, Kd.s]]], [.sl [Kd.s, Kd.s, Kd.s, Kd.sl [Kd.b, Kd.i IntKind.i64, Kd.s]]]]) (fun x e => slices_DeleteFunc_mz_fact_Minus_1_v n x.1.1 x.1.2 e.1.1 e.2.1.1.1 e.2.1.1.2) Spec.none)))
theorem fact_Minus_σok (n : Nat) : SpecOk Try.prog (fact_Minus_σ n) := (inst_ok (fun x e y h => fact_Sorted_c n x.1.1 x.1.2 y h) (inst_ok (fun x e y h => slices_DeleteFunc_fact_Minus_1_c n x.1.1 x.1.2 e.1.1.1 e.1.1.2 y h) (inst_ok (fun x e y h => slices_DeleteFunc_mz_fact_Minus_1_c n x.1.1 x.1.2 e.1.1 e.2.1.1.1 e.2.1.1.2 y h) (SpecOk.none _))))
noncomputable def fact_Minus_Φ (n : Nat) : Orc := with_ Try.prog (fact_Minus_σ n) [] n 0 [1000067, 1000069]
noncomputable def fact_Minus_v (n : Nat) (b0 : Bool) (r1 : Rows) (b2 : Bool) (r3 : Rows) : Option ((Bool × Rows) × Unit) :=
  DM.denFn tm (fact_Minus_Φ n) fact_Minus_lv n Try.f34 false [AV.sl b0 [Kd.s, Kd.s, Kd.s, Kd.sl [Kd.b, Kd.i IntKind.i64, Kd.s]] r1 Right.no, AV.sl b2 [Kd.s, Kd.s, Kd.s, Kd.sl [Kd.b, Kd.i IntKind.i64, Kd.s]] r3 Right.no] [] (OSh.chk (OSh.plain (.sl [Kd.s, Kd.s, Kd.s, Kd.sl [Kd.b, Kd.i IntKind.i64, Kd.s]]) []))
theorem fact_Minus_e (n : Nat) (b0 : Bool) (r1 : Rows) (b2 : Bool) (r3 : Rows) : fact_Minus_v n b0 r1 b2 r3 =
  obind (fact_Sorted_v n b0 r1) fun y4 =>
  bif y4.fst.fst || List.isEmpty y4.fst.snd then
    obind (slices_DeleteFunc_fact_Minus_1_v n y4.fst.fst [] b2 r3) fun y5 =>
    some ((y5.fst.fst, y5.fst.snd), ())
  else obind (slices_DeleteFunc_mz_fact_Minus_1_v n (List.length y4.fst.snd) (List.length y4.fst.snd) y4.fst.snd b2 r3) fun y6 =>
  if 0 + y6.fst.fst ≤ List.length y6.snd.fst.fst then
    some ((false, List.take y6.fst.fst (List.drop 0 y6.snd.fst.fst)), ())
  else none := by kernel_rfl
theorem fact_Minus_c (n : Nat) (b0 : Bool) (r1 : Rows) (b2 : Bool) (r3 : Rows) (y : (Bool × Rows) × Unit) (h : fact_Minus_v n b0 r1 b2 r3 = some y) : Contract Try.prog 34 [AV.sl b0 [Kd.s, Kd.s, Kd.s, Kd.sl [Kd.b, Kd.i IntKind.i64, Kd.s]] r1 Right.no, AV.sl b2 [Kd.s, Kd.s, Kd.s, Kd.sl [Kd.b, Kd.i IntKind.i64, Kd.s]] r3 Right.no] [] (OSh.enc (OSh.plain (.sl [Kd.s, Kd.s, Kd.s, Kd.sl [Kd.b, Kd.i IntKind.i64, Kd.s]]) []) y) :=
  auto_okM tm_std (with_ok mixed (by kernel_rfl) (fact_Minus_σok n) n 0 [1000067, 1000069]) (with_pick mixed (by kernel_rfl) (fact_Minus_σok n) n 0 [1000067, 1000069]) mixed Try.func34 (by decide) (o := (OSh.plain (.sl [Kd.s, Kd.s, Kd.s, Kd.sl [Kd.b, Kd.i IntKind.i64, Kd.s]]) [])) h
end Go.Den
