import Derived.Test.YtkgiabbndbmmbaaZ04
import Derived.Test.YtkgiabbndbmmbaaZ12
set_option linter.unusedVariables false
set_option linter.unusedSimpArgs false
set_option linter.unusedSectionVars false
namespace Go.Den
open Go.Proofs
set_option maxRecDepth 100000
def z33_lv : Live := [(3, [0, 1, 5, 6], [1000, 1001, 1002, 1003]), (7, [0, 1, 5, 6, 7], [1000, 1001, 1002, 1003])]
noncomputable def z33_σ (n : Nat) : Spec := (bookH Spec.none)
theorem z33_σok (n : Nat) : SpecOk Try.prog (z33_σ n) := (bookH_ok (SpecOk.none _))
noncomputable def z33_Φ (n : Nat) : Orc := with_ Try.prog (z33_σ n) [] n 0 [1000045, 1000059]
noncomputable def z33_v (n : Nat) (b0 : Bool) (r1 : Rows) (j2 : Int) : Option (Int × Unit) :=
 DM.denFn tm (z33_Φ n) z33_lv n Try.f9 false [AV.sl b0 [Kd.s, Kd.s, Kd.s, Kd.sl [Kd.b, Kd.i IntKind.i64, Kd.s]] r1 Right.no, AV.dv (DV.val (Value.int IntKind.i64 j2))] [] (OSh.chk (OSh.plain (.i IntKind.i64) []))
noncomputable def z33_l3 (n : Nat) (b0 : Bool) (r1 : Rows) (j2 : Int) (i0 : Nat) (j5 : Int) (j6 : Int) : Option (Int × Unit) :=
 DM.loopFn tm (z33_Φ n) z33_lv n Try.f9 false [] (OSh.chk (OSh.plain (.i IntKind.i64) [])) 3 [] i0 (St.mk [AV.sl b0 [Kd.s, Kd.s, Kd.s, Kd.sl [Kd.b, Kd.i IntKind.i64, Kd.s]] r1 Right.no, AV.dv (DV.val (Value.int IntKind.i64 j2)), AV.junk, AV.junk, AV.junk, AV.dv (DV.val (Value.int IntKind.i64 j5)), AV.dv (DV.val (Value.int IntKind.i64 j6)), AV.junk, AV.junk, AV.junk, AV.junk, AV.junk, AV.junk, AV.junk, AV.junk, AV.junk, AV.junk, AV.junk, AV.junk, AV.junk, AV.junk, AV.junk, AV.junk, AV.junk, AV.junk, AV.junk, AV.junk, AV.junk, AV.junk, AV.junk, AV.junk, AV.junk, AV.junk, AV.junk, AV.junk, AV.junk, AV.junk, AV.junk, AV.junk, AV.junk, AV.junk, AV.junk, AV.junk, AV.junk, AV.junk, AV.junk, AV.junk, AV.junk, AV.junk, AV.junk, AV.junk, AV.junk, AV.junk, AV.junk, AV.junk, AV.junk, AV.junk, AV.junk, AV.junk, AV.junk, AV.junk, AV.junk, AV.junk, AV.junk, AV.junk, AV.junk, AV.junk, AV.junk, AV.junk, AV.junk, AV.junk, AV.junk, AV.junk, AV.junk, AV.junk, AV.junk, AV.junk, AV.junk, AV.junk] [])
noncomputable def z33_l7 (n : Nat) (b0 : Bool) (r1 : Rows) (j2 : Int) (i0 i1 : Nat) (j3 : Int) (j4 : Int) (j7 : Int) : Option (Int × Unit) :=
 DM.loopFn tm (z33_Φ n) z33_lv n Try.f9 false [] (OSh.chk (OSh.plain (.i IntKind.i64) [])) 7 [i0] i1 (St.mk [AV.sl b0 [Kd.s, Kd.s, Kd.s, Kd.sl [Kd.b, Kd.i IntKind.i64, Kd.s]] r1 Right.no, AV.dv (DV.val (Value.int IntKind.i64 j2)), AV.junk, AV.junk, AV.junk, AV.dv (DV.val (Value.int IntKind.i64 j3)), AV.dv (DV.val (Value.int IntKind.i64 j7)), AV.dv (DV.val (Value.int IntKind.i64 j4)), AV.junk, AV.junk, AV.junk, AV.junk, AV.junk, AV.junk, AV.junk, AV.junk, AV.junk, AV.junk, AV.junk, AV.junk, AV.junk, AV.junk, AV.junk, AV.junk, AV.junk, AV.junk, AV.junk, AV.junk, AV.junk, AV.junk, AV.junk, AV.junk, AV.junk, AV.junk, AV.junk, AV.junk, AV.junk, AV.junk, AV.junk, AV.junk, AV.junk, AV.junk, AV.junk, AV.junk, AV.junk, AV.junk, AV.junk, AV.junk, AV.junk, AV.junk, AV.junk, AV.junk, AV.junk, AV.junk, AV.junk, AV.junk, AV.junk, AV.junk, AV.junk, AV.junk, AV.junk, AV.junk, AV.junk, AV.junk, AV.junk, AV.junk, AV.junk, AV.junk, AV.junk, AV.junk, AV.junk, AV.junk, AV.junk, AV.junk, AV.junk, AV.junk, AV.junk, AV.junk, AV.junk] [])
theorem z33_s3 (n : Nat) (b0 : Bool) (r1 : Rows) (j2 : Int) (i0 : Nat) (j5 : Int) (j6 : Int) : z33_l3 n b0 r1 j2 (i0 + 1) j5 j6 =
 bif decide (j6 < (↑(List.length r1) : Int)) then
  bif decide (j5 ≤ j2) then
   if 0 ≤ j6 then
    if j6 < (↑(List.length r1) : Int) then
     if 0 ≤ j6 then
      if j6 < (↑(List.length r1) : Int) then
       if 0 ≤ j6 then
        if j6 < (↑(List.length r1) : Int) then
         if 0 ≤ j6 then
          if j6 < (↑(List.length r1) : Int) then
           z33_l7 n b0 r1 j2 i0 n (IntKind.wrap IntKind.i64 (j5 + IntKind.wrap IntKind.i64 (IntKind.wrap IntKind.i64 (1 + (↑(List.length (Row.R (List.getD r1 (Int.toNat j6) []) 3)) : Int)) + IntKind.wrap IntKind.i64 (Int.tdiv (IntKind.wrap IntKind.i64 (IntKind.wrap IntKind.i64 ((↑(ByteArray.size (Row.S (List.getD r1 (Int.toNat j6) []) 0)) : Int) + (↑(ByteArray.size (Row.S (List.getD r1 (Int.toNat j6) []) 1)) : Int)) + (↑(ByteArray.size (Row.S (List.getD r1 (Int.toNat j6) []) 2)) : Int))) 16)))) 0 j6
          else none
         else none
        else none
       else none
      else none
     else none
    else none
   else none
  else some (j5, ())
 else some (j5, ()) := by kernel_rfl
theorem z33_s7 (n : Nat) (b0 : Bool) (r1 : Rows) (j2 : Int) (i0 i1 : Nat) (j3 : Int) (j4 : Int) (j7 : Int) : z33_l7 n b0 r1 j2 i0 (i1 + 1) j3 j4 j7 =
 if 0 ≤ j7 then
  if j7 < (↑(List.length r1) : Int) then
   bif decide (j4 < (↑(List.length (Row.R (List.getD r1 (Int.toNat j7) []) 3)) : Int)) then
    bif decide (j3 ≤ j2) then
     if 0 ≤ j7 then
      if j7 < (↑(List.length r1) : Int) then
       if 0 ≤ j4 then
        if j4 < (↑(List.length (Row.R (List.getD r1 (Int.toNat j7) []) 3)) : Int) then
         z33_l7 n b0 r1 j2 i0 i1 (IntKind.wrap IntKind.i64 (j3 + IntKind.wrap IntKind.i64 (Int.tdiv (↑(ByteArray.size (Row.S (List.getD (Row.R (List.getD r1 (Int.toNat j7) []) 3) (Int.toNat j4) []) 2)) : Int) 16))) (IntKind.wrap IntKind.i64 (j4 + 1)) j7
        else none
       else none
      else none
     else none
    else z33_l3 n b0 r1 j2 i0 j3 (IntKind.wrap IntKind.i64 (j7 + 1))
   else z33_l3 n b0 r1 j2 i0 j3 (IntKind.wrap IntKind.i64 (j7 + 1))
  else none
 else none := by kernel_rfl
theorem z33_e (n : Nat) (b0 : Bool) (r1 : Rows) (j2 : Int) : z33_v n b0 r1 j2 =
 z33_l3 n b0 r1 j2 n 0 0 := by kernel_rfl
theorem z33_c (n : Nat) (b0 : Bool) (r1 : Rows) (j2 : Int) (y : Int × Unit) (h : z33_v n b0 r1 j2 = some y) : Contract Try.prog 9 [AV.sl b0 [Kd.s, Kd.s, Kd.s, Kd.sl [Kd.b, Kd.i IntKind.i64, Kd.s]] r1 Right.no, AV.dv (DV.val (Value.int IntKind.i64 j2))] [] (OSh.enc (OSh.plain (.i IntKind.i64) []) y) :=
 auto_okM tm_std (with_ok mixed (by kernel_rfl) (z33_σok n) n 0 [1000045, 1000059]) (with_pick mixed (by kernel_rfl) (z33_σok n) n 0 [1000045, 1000059]) mixed Try.func9 (by decide) (o := (OSh.plain (.i IntKind.i64) [])) h
def z34_lv : Live := [(3, [0, 1, 5, 6], [1000, 1001, 1002, 1003])]
noncomputable def z34_σ (n : Nat) : Spec := (inst 9 [.sl [Kd.s, Kd.s, Kd.s, Kd.sl [Kd.b, Kd.i IntKind.i64, Kd.s]], .i IntKind.i64] [] (OSh.plain (.i IntKind.i64) []) (fun x e => z33_v n x.1.1 x.1.2 x.2.1) (bookH Spec.none))
theorem z34_σok (n : Nat) : SpecOk Try.prog (z34_σ n) := (inst_ok (fun x e y h => z33_c n x.1.1 x.1.2 x.2.1 y h) (bookH_ok (SpecOk.none _)))
noncomputable def z34_Φ (n : Nat) : Orc := with_ Try.prog (z34_σ n) [] n 0 [1000045, 1000059]
noncomputable def z34_v (n : Nat) (b0 : Bool) (r1 : Rows) (j2 : Int) : Option (Int × Unit) :=
 DM.denFn tm (z34_Φ n) z34_lv n Try.f8 false [AV.sl b0 [Kd.i IntKind.i64, Kd.s, Kd.s, Kd.s, Kd.sl [Kd.b, Kd.i IntKind.i64, Kd.s], Kd.sl [Kd.s, Kd.s, Kd.s, Kd.sl [Kd.b, Kd.i IntKind.i64, Kd.s]]] r1 Right.no, AV.dv (DV.val (Value.int IntKind.i64 j2))] [] (OSh.chk (OSh.plain (.i IntKind.i64) []))
noncomputable def z34_l3 (n : Nat) (b0 : Bool) (r1 : Rows) (j2 : Int) (i0 : Nat) (j5 : Int) (j6 : Int) : Option (Int × Unit) :=
 DM.loopFn tm (z34_Φ n) z34_lv n Try.f8 false [] (OSh.chk (OSh.plain (.i IntKind.i64) [])) 3 [] i0 (St.mk [AV.sl b0 [Kd.i IntKind.i64, Kd.s, Kd.s, Kd.s, Kd.sl [Kd.b, Kd.i IntKind.i64, Kd.s], Kd.sl [Kd.s, Kd.s, Kd.s, Kd.sl [Kd.b, Kd.i IntKind.i64, Kd.s]]] r1 Right.no, AV.dv (DV.val (Value.int IntKind.i64 j2)), AV.junk, AV.junk, AV.junk, AV.dv (DV.val (Value.int IntKind.i64 j5)), AV.dv (DV.val (Value.int IntKind.i64 j6)), AV.junk, AV.junk, AV.junk, AV.junk, AV.junk, AV.junk, AV.junk, AV.junk, AV.junk, AV.junk, AV.junk, AV.junk, AV.junk, AV.junk, AV.junk, AV.junk, AV.junk, AV.junk, AV.junk, AV.junk, AV.junk, AV.junk, AV.junk, AV.junk, AV.junk, AV.junk, AV.junk, AV.junk, AV.junk, AV.junk, AV.junk] [])
theorem z34_s3 (n : Nat) (b0 : Bool) (r1 : Rows) (j2 : Int) (i0 : Nat) (j5 : Int) (j6 : Int) : z34_l3 n b0 r1 j2 (i0 + 1) j5 j6 =
 bif decide (j6 < (↑(List.length r1) : Int)) then
  bif decide (j5 ≤ j2) then
   if 0 ≤ j6 then
    if j6 < (↑(List.length r1) : Int) then
     obind (z33_v n false ([[DV.val (Value.string (Row.S (List.getD r1 (Int.toNat j6) []) 1)), DV.val (Value.string (Row.S (List.getD r1 (Int.toNat j6) []) 2)), DV.val (Value.string (Row.S (List.getD r1 (Int.toNat j6) []) 3)), DV.sl (Row.N (List.getD r1 (Int.toNat j6) []) 4) [Kd.b, Kd.i IntKind.i64, Kd.s] (Row.R (List.getD r1 (Int.toNat j6) []) 4)]]) j2) fun y7 =>
     if 0 ≤ j6 then
      if j6 < (↑(List.length r1) : Int) then
       obind (z33_v n (Row.N (List.getD r1 (Int.toNat j6) []) 5) (Row.R (List.getD r1 (Int.toNat j6) []) 5) j2) fun y8 =>
       z34_l3 n b0 r1 j2 i0 (IntKind.wrap IntKind.i64 (j5 + IntKind.wrap IntKind.i64 (IntKind.wrap IntKind.i64 (1 + y7.fst) + y8.fst))) (IntKind.wrap IntKind.i64 (j6 + 1))
      else none
     else none
    else none
   else none
  else some (j5, ())
 else some (j5, ()) := by kernel_rfl
theorem z34_e (n : Nat) (b0 : Bool) (r1 : Rows) (j2 : Int) : z34_v n b0 r1 j2 =
 z34_l3 n b0 r1 j2 n 0 0 := by kernel_rfl
theorem z34_c (n : Nat) (b0 : Bool) (r1 : Rows) (j2 : Int) (y : Int × Unit) (h : z34_v n b0 r1 j2 = some y) : Contract Try.prog 8 [AV.sl b0 [Kd.i IntKind.i64, Kd.s, Kd.s, Kd.s, Kd.sl [Kd.b, Kd.i IntKind.i64, Kd.s], Kd.sl [Kd.s, Kd.s, Kd.s, Kd.sl [Kd.b, Kd.i IntKind.i64, Kd.s]]] r1 Right.no, AV.dv (DV.val (Value.int IntKind.i64 j2))] [] (OSh.enc (OSh.plain (.i IntKind.i64) []) y) :=
 auto_okM tm_std (with_ok mixed (by kernel_rfl) (z34_σok n) n 0 [1000045, 1000059]) (with_pick mixed (by kernel_rfl) (z34_σok n) n 0 [1000045, 1000059]) mixed Try.func8 (by decide) (o := (OSh.plain (.i IntKind.i64) [])) h
def z42_lv : Live := [(3, [0, 3, 4], [1000, 1001, 1002, 1003])]
noncomputable def z42_σ (n : Nat) : Spec := (inst 8 [.sl [Kd.i IntKind.i64, Kd.s, Kd.s, Kd.s, Kd.sl [Kd.b, Kd.i IntKind.i64, Kd.s], Kd.sl [Kd.s, Kd.s, Kd.s, Kd.sl [Kd.b, Kd.i IntKind.i64, Kd.s]]], .i IntKind.i64] [] (OSh.plain (.i IntKind.i64) []) (fun x e => z34_v n x.1.1 x.1.2 x.2.1) (bookH Spec.none))
theorem z42_σok (n : Nat) : SpecOk Try.prog (z42_σ n) := (inst_ok (fun x e y h => z34_c n x.1.1 x.1.2 x.2.1 y h) (bookH_ok (SpecOk.none _)))
noncomputable def z42_Φ (n : Nat) : Orc := with_ Try.prog (z42_σ n) [] n 0 [1000045, 1000059]
noncomputable def z42_v (n : Nat) (b0 : Bool) (r1 : Rows) : Option (Bool × Unit) :=
 DM.denFn tm (z42_Φ n) z42_lv n Try.f23 false [AV.sl b0 [Kd.i IntKind.i64, Kd.i IntKind.i64, Kd.s, Kd.s, Kd.s, Kd.sl [Kd.b, Kd.i IntKind.i64, Kd.s], Kd.sl [Kd.s, Kd.s, Kd.s, Kd.sl [Kd.b, Kd.i IntKind.i64, Kd.s]]] r1 Right.no] [] (OSh.chk (OSh.plain (.b) []))
noncomputable def z42_l3 (n : Nat) (b0 : Bool) (r1 : Rows) (i0 : Nat) (b3 : Bool) (r4 : List (List DV)) (j5 : Int) : Option (Bool × Unit) :=
 DM.loopFn tm (z42_Φ n) z42_lv n Try.f23 false [] (OSh.chk (OSh.plain (.b) [])) 3 [] i0 (St.mk [AV.sl b0 [Kd.i IntKind.i64, Kd.i IntKind.i64, Kd.s, Kd.s, Kd.s, Kd.sl [Kd.b, Kd.i IntKind.i64, Kd.s], Kd.sl [Kd.s, Kd.s, Kd.s, Kd.sl [Kd.b, Kd.i IntKind.i64, Kd.s]]] r1 Right.no, AV.junk, AV.junk, AV.sl b3 [Kd.i IntKind.i64, Kd.s, Kd.s, Kd.s, Kd.sl [Kd.b, Kd.i IntKind.i64, Kd.s], Kd.sl [Kd.s, Kd.s, Kd.s, Kd.sl [Kd.b, Kd.i IntKind.i64, Kd.s]]] r4 (Right.tok 3), AV.dv (DV.val (Value.int IntKind.i64 j5)), AV.junk, AV.junk, AV.junk, AV.junk, AV.junk, AV.junk, AV.junk, AV.junk, AV.junk, AV.junk, AV.junk, AV.junk, AV.junk, AV.junk, AV.junk, AV.junk, AV.junk, AV.junk, AV.junk, AV.junk, AV.junk, AV.junk, AV.junk, AV.junk, AV.junk, AV.junk] [])
theorem z42_s3 (n : Nat) (b0 : Bool) (r1 : Rows) (i0 : Nat) (b3 : Bool) (r4 : List (List DV)) (j5 : Int) : z42_l3 n b0 r1 (i0 + 1) b3 r4 j5 =
 bif decide (j5 < (↑(List.length r1) : Int)) then
  bif decide (j5 < 200) then
   if 0 ≤ j5 then
    if j5 < (↑(List.length r1) : Int) then
     if (List.length r4 + List.length [[DV.val (Value.int IntKind.i64 (Row.I (List.getD r1 (Int.toNat j5) []) 1)), DV.val (Value.string (Row.S (List.getD r1 (Int.toNat j5) []) 2)), DV.val (Value.string (Row.S (List.getD r1 (Int.toNat j5) []) 3)), DV.val (Value.string (Row.S (List.getD r1 (Int.toNat j5) []) 4)), DV.sl (Row.N (List.getD r1 (Int.toNat j5) []) 5) [Kd.b, Kd.i IntKind.i64, Kd.s] (Row.R (List.getD r1 (Int.toNat j5) []) 5), DV.sl (Row.N (List.getD r1 (Int.toNat j5) []) 6) [Kd.s, Kd.s, Kd.s, Kd.sl [Kd.b, Kd.i IntKind.i64, Kd.s]] (Row.R (List.getD r1 (Int.toNat j5) []) 6)]]) * 104 ≤ 140737488355328 then
      z42_l3 n b0 r1 i0 (b3 && List.isEmpty [[DV.val (Value.int IntKind.i64 (Row.I (List.getD r1 (Int.toNat j5) []) 1)), DV.val (Value.string (Row.S (List.getD r1 (Int.toNat j5) []) 2)), DV.val (Value.string (Row.S (List.getD r1 (Int.toNat j5) []) 3)), DV.val (Value.string (Row.S (List.getD r1 (Int.toNat j5) []) 4)), DV.sl (Row.N (List.getD r1 (Int.toNat j5) []) 5) [Kd.b, Kd.i IntKind.i64, Kd.s] (Row.R (List.getD r1 (Int.toNat j5) []) 5), DV.sl (Row.N (List.getD r1 (Int.toNat j5) []) 6) [Kd.s, Kd.s, Kd.s, Kd.sl [Kd.b, Kd.i IntKind.i64, Kd.s]] (Row.R (List.getD r1 (Int.toNat j5) []) 6)]]) (appX r4 [[DV.val (Value.int IntKind.i64 (Row.I (List.getD r1 (Int.toNat j5) []) 1)), DV.val (Value.string (Row.S (List.getD r1 (Int.toNat j5) []) 2)), DV.val (Value.string (Row.S (List.getD r1 (Int.toNat j5) []) 3)), DV.val (Value.string (Row.S (List.getD r1 (Int.toNat j5) []) 4)), DV.sl (Row.N (List.getD r1 (Int.toNat j5) []) 5) [Kd.b, Kd.i IntKind.i64, Kd.s] (Row.R (List.getD r1 (Int.toNat j5) []) 5), DV.sl (Row.N (List.getD r1 (Int.toNat j5) []) 6) [Kd.s, Kd.s, Kd.s, Kd.sl [Kd.b, Kd.i IntKind.i64, Kd.s]] (Row.R (List.getD r1 (Int.toNat j5) []) 6)]]) (IntKind.wrap IntKind.i64 (j5 + 1))
     else none
    else none
   else none
  else bif decide ((↑(List.length r1) : Int) < 200) then
   obind (z34_v n b3 r4 500) fun y6 =>
   some (decide (y6.fst ≤ 500), ())
  else some (false, ())
 else bif decide ((↑(List.length r1) : Int) < 200) then
  obind (z34_v n b3 r4 500) fun y7 =>
  some (decide (y7.fst ≤ 500), ())
 else some (false, ()) := by kernel_rfl
theorem z42_e (n : Nat) (b0 : Bool) (r1 : Rows) : z42_v n b0 r1 =
 z42_l3 n b0 r1 n true [] 0 := by kernel_rfl
theorem z42_c (n : Nat) (b0 : Bool) (r1 : Rows) (y : Bool × Unit) (h : z42_v n b0 r1 = some y) : Contract Try.prog 23 [AV.sl b0 [Kd.i IntKind.i64, Kd.i IntKind.i64, Kd.s, Kd.s, Kd.s, Kd.sl [Kd.b, Kd.i IntKind.i64, Kd.s], Kd.sl [Kd.s, Kd.s, Kd.s, Kd.sl [Kd.b, Kd.i IntKind.i64, Kd.s]]] r1 Right.no] [] (OSh.enc (OSh.plain (.b) []) y) :=
 auto_okM tm_std (with_ok mixed (by kernel_rfl) (z42_σok n) n 0 [1000045, 1000059]) (with_pick mixed (by kernel_rfl) (z42_σok n) n 0 [1000045, 1000059]) mixed Try.func23 (by decide) (o := (OSh.plain (.b) [])) h
def z52_lv : Live := []
noncomputable def z52_σ (n : Nat) : Spec := (bookH Spec.none)
theorem z52_σok (n : Nat) : SpecOk Try.prog (z52_σ n) := (bookH_ok (SpecOk.none _))
noncomputable def z52_Φ (n : Nat) : Orc := with_ Try.prog (z52_σ n) [] n 0 [1000045, 1000059]
noncomputable def z52_v (n : Nat) : Option (Unit × ((Bool × Rows) × Bool × Unit) × Unit) :=
 DM.denFnN tm (z52_Φ n) z52_lv n Try.f24 [2] [] [] (OSh.chk (OSh.plain (.pl 1000 0) [[.sl [Kd.i IntKind.i64, Kd.s, Kd.s, Kd.s, Kd.sl [Kd.b, Kd.i IntKind.i64, Kd.s], Kd.sl [Kd.s, Kd.s, Kd.s, Kd.sl [Kd.b, Kd.i IntKind.i64, Kd.s]]], .b]]))
theorem z52_e (n : Nat) : z52_v n =
 some ((), (((true, []), (true, ())), ())) := by kernel_rfl
theorem z52_c (n : Nat) (y : Unit × ((Bool × Rows) × Bool × Unit) × Unit) (h : z52_v n = some y) : Contract Try.prog 24 [] [] (OSh.enc (OSh.plain (.pl 1000 0) [[.sl [Kd.i IntKind.i64, Kd.s, Kd.s, Kd.s, Kd.sl [Kd.b, Kd.i IntKind.i64, Kd.s], Kd.sl [Kd.s, Kd.s, Kd.s, Kd.sl [Kd.b, Kd.i IntKind.i64, Kd.s]]], .b]]) y) :=
 autoN_okM tm_std (with_ok mixed (by kernel_rfl) (z52_σok n) n 0 [1000045, 1000059]) mixed Try.func24 (by decide) (o := (OSh.plain (.pl 1000 0) [[.sl [Kd.i IntKind.i64, Kd.s, Kd.s, Kd.s, Kd.sl [Kd.b, Kd.i IntKind.i64, Kd.s], Kd.sl [Kd.s, Kd.s, Kd.s, Kd.sl [Kd.b, Kd.i IntKind.i64, Kd.s]]], .b]])) h
def z54_lv : Live := []
noncomputable def z54_σ (n : Nat) : Spec := (bookH Spec.none)
theorem z54_σok (n : Nat) : SpecOk Try.prog (z54_σ n) := (bookH_ok (SpecOk.none _))
noncomputable def z54_Φ (n : Nat) : Orc := with_ Try.prog (z54_σ n) [] n 0 [1000045, 1000059]
noncomputable def z54_v (n : Nat) (j0 : Int) : Option ((ByteArray × ByteArray × ByteArray × (Bool × Rows) × Unit) × Unit) :=
 DM.denFn tm (z54_Φ n) z54_lv n Try.f34 false [AV.dv (DV.val (Value.int IntKind.i64 j0))] [] (OSh.chk (OSh.plain (.agg [.s, .s, .s, .sl [Kd.b, Kd.i IntKind.i64, Kd.s]]) []))
theorem z54_e (n : Nat) (j0 : Int) : z54_v n j0 =
 some ((ByteArray.mk #[97], (ByteArray.mk #[97], (ByteArray.mk #[112], ((false, [[DV.val (Value.bool true), DV.val (Value.int IntKind.i64 j0), DV.val (Value.string (ByteArray.mk #[]))]]), ())))), ()) := by kernel_rfl
theorem z54_c (n : Nat) (j0 : Int) (y : (ByteArray × ByteArray × ByteArray × (Bool × Rows) × Unit) × Unit) (h : z54_v n j0 = some y) : Contract Try.prog 34 [AV.dv (DV.val (Value.int IntKind.i64 j0))] [] (OSh.enc (OSh.plain (.agg [.s, .s, .s, .sl [Kd.b, Kd.i IntKind.i64, Kd.s]]) []) y) :=
 auto_okM tm_std (with_ok mixed (by kernel_rfl) (z54_σok n) n 0 [1000045, 1000059]) (with_pick mixed (by kernel_rfl) (z54_σok n) n 0 [1000045, 1000059]) mixed Try.func34 (by decide) (o := (OSh.plain (.agg [.s, .s, .s, .sl [Kd.b, Kd.i IntKind.i64, Kd.s]]) [])) h
def z14_lv : Live := []
noncomputable def z14_σ (n : Nat) : Spec := (bookH Spec.none)
theorem z14_σok (n : Nat) : SpecOk Try.prog (z14_σ n) := (bookH_ok (SpecOk.none _))
noncomputable def z14_Φ (n : Nat) : Orc := with_ Try.prog (z14_σ n) [] n 0 [1000045, 1000059]
noncomputable def z14_v (n : Nat) (r0 : Row) : Option (Bool × Unit) :=
 DM.denFn tm (z14_Φ n) z14_lv n Try.f36 false [AV.pv [Kd.sl [Kd.i IntKind.i64, Kd.s, Kd.s, Kd.s, Kd.sl [Kd.b, Kd.i IntKind.i64, Kd.s], Kd.sl [Kd.s, Kd.s, Kd.s, Kd.sl [Kd.b, Kd.i IntKind.i64, Kd.s]]], Kd.b] r0 0] [] (OSh.chk (OSh.plain (.b) []))
theorem z14_e (n : Nat) (r0 : Row) : z14_v n r0 =
 some (!Row.B r0 1, ()) := by kernel_rfl
theorem z14_c (n : Nat) (r0 : Row) (y : Bool × Unit) (h : z14_v n r0 = some y) : Contract Try.prog 36 [AV.pv [Kd.sl [Kd.i IntKind.i64, Kd.s, Kd.s, Kd.s, Kd.sl [Kd.b, Kd.i IntKind.i64, Kd.s], Kd.sl [Kd.s, Kd.s, Kd.s, Kd.sl [Kd.b, Kd.i IntKind.i64, Kd.s]]], Kd.b] r0 0] [] (OSh.enc (OSh.plain (.b) []) y) :=
 auto_okM tm_std (with_ok mixed (by kernel_rfl) (z14_σok n) n 0 [1000045, 1000059]) (with_pick mixed (by kernel_rfl) (z14_σok n) n 0 [1000045, 1000059]) mixed Try.func36 (by decide) (o := (OSh.plain (.b) [])) h
def z37_lv : Live := []
noncomputable def z37_σ (n : Nat) : Spec := (bookH Spec.none)
theorem z37_σok (n : Nat) : SpecOk Try.prog (z37_σ n) := (bookH_ok (SpecOk.none _))
noncomputable def z37_Φ (n : Nat) : Orc := with_ Try.prog (z37_σ n) [] n 0 [1000045, 1000059]
noncomputable def z37_v (n : Nat) (j0 : Int) : Option (Bool × Unit) :=
 DM.denFn tm (z37_Φ n) z37_lv n Try.f79 false [AV.dv (DV.val (Value.int IntKind.i64 j0))] [] (OSh.chk (OSh.plain (.b) []))
theorem z37_e (n : Nat) (j0 : Int) : z37_v n j0 =
 some (j0 != j0, ()) := by kernel_rfl
theorem z37_c (n : Nat) (j0 : Int) (y : Bool × Unit) (h : z37_v n j0 = some y) : Contract Try.prog 79 [AV.dv (DV.val (Value.int IntKind.i64 j0))] [] (OSh.enc (OSh.plain (.b) []) y) :=
 auto_okM tm_std (with_ok mixed (by kernel_rfl) (z37_σok n) n 0 [1000045, 1000059]) (with_pick mixed (by kernel_rfl) (z37_σok n) n 0 [1000045, 1000059]) mixed Try.func79 (by decide) (o := (OSh.plain (.b) [])) h
def z26_lv : Live := []
noncomputable def z26_σ (n : Nat) : Spec := (inst 79 [.i IntKind.i64] [] (OSh.plain (.b) []) (fun x e => z37_v n x.1) (bookH Spec.none))
theorem z26_σok (n : Nat) : SpecOk Try.prog (z26_σ n) := (inst_ok (fun x e y h => z37_c n x.1 y h) (bookH_ok (SpecOk.none _)))
noncomputable def z26_Φ (n : Nat) : Orc := with_ Try.prog (z26_σ n) [] n 0 [1000045, 1000059]
noncomputable def z26_v (n : Nat) (j0 : Int) (j1 : Int) : Option (Int × Unit) :=
 DM.denFn tm (z26_Φ n) z26_lv n Try.f70 false [AV.dv (DV.val (Value.int IntKind.i64 j0)), AV.dv (DV.val (Value.int IntKind.i64 j1))] [] (OSh.chk (OSh.plain (.i IntKind.i64) []))
theorem z26_e (n : Nat) (j0 : Int) (j1 : Int) : z26_v n j0 j1 =
 obind (z37_v n j0) fun y2 =>
 obind (z37_v n j1) fun y3 =>
 bif y2.fst then
  bif y3.fst then
   some (0, ())
  else some (-1, ())
 else bif y3.fst then
  some (1, ())
 else bif decide (j0 < j1) then
  some (-1, ())
 else bif decide (j0 > j1) then
  some (1, ())
 else some (0, ()) := by kernel_rfl
theorem z26_c (n : Nat) (j0 : Int) (j1 : Int) (y : Int × Unit) (h : z26_v n j0 j1 = some y) : Contract Try.prog 70 [AV.dv (DV.val (Value.int IntKind.i64 j0)), AV.dv (DV.val (Value.int IntKind.i64 j1))] [] (OSh.enc (OSh.plain (.i IntKind.i64) []) y) :=
 auto_okM tm_std (with_ok mixed (by kernel_rfl) (z26_σok n) n 0 [1000045, 1000059]) (with_pick mixed (by kernel_rfl) (z26_σok n) n 0 [1000045, 1000059]) mixed Try.func70 (by decide) (o := (OSh.plain (.i IntKind.i64) [])) h
def z50_lv : Live := []
noncomputable def z50_σ (n : Nat) : Spec := (bookH Spec.none)
theorem z50_σok (n : Nat) : SpecOk Try.prog (z50_σ n) := (bookH_ok (SpecOk.none _))
noncomputable def z50_Φ (n : Nat) : Orc := with_ Try.prog (z50_σ n) [] n 0 [1000045, 1000059]
noncomputable def z50_v (n : Nat) (s0 : ByteArray) : Option (Bool × Unit) :=
 DM.denFn tm (z50_Φ n) z50_lv n Try.f76 false [AV.dv (DV.val (Value.string s0))] [] (OSh.chk (OSh.plain (.b) []))
theorem z50_e (n : Nat) (s0 : ByteArray) : z50_v n s0 =
 some (!s0 == s0, ()) := by kernel_rfl
theorem z50_c (n : Nat) (s0 : ByteArray) (y : Bool × Unit) (h : z50_v n s0 = some y) : Contract Try.prog 76 [AV.dv (DV.val (Value.string s0))] [] (OSh.enc (OSh.plain (.b) []) y) :=
 auto_okM tm_std (with_ok mixed (by kernel_rfl) (z50_σok n) n 0 [1000045, 1000059]) (with_pick mixed (by kernel_rfl) (z50_σok n) n 0 [1000045, 1000059]) mixed Try.func76 (by decide) (o := (OSh.plain (.b) [])) h
def z38_lv : Live := []
noncomputable def z38_σ (n : Nat) : Spec := (inst 76 [.s] [] (OSh.plain (.b) []) (fun x e => z50_v n x.1) (bookH Spec.none))
theorem z38_σok (n : Nat) : SpecOk Try.prog (z38_σ n) := (inst_ok (fun x e y h => z50_c n x.1 y h) (bookH_ok (SpecOk.none _)))
noncomputable def z38_Φ (n : Nat) : Orc := with_ Try.prog (z38_σ n) [] n 0 [1000045, 1000059]
noncomputable def z38_v (n : Nat) (s0 : ByteArray) (s1 : ByteArray) : Option (Int × Unit) :=
 DM.denFn tm (z38_Φ n) z38_lv n Try.f62 false [AV.dv (DV.val (Value.string s0)), AV.dv (DV.val (Value.string s1))] [] (OSh.chk (OSh.plain (.i IntKind.i64) []))
theorem z38_e (n : Nat) (s0 : ByteArray) (s1 : ByteArray) : z38_v n s0 s1 =
 obind (z50_v n s0) fun y2 =>
 obind (z50_v n s1) fun y3 =>
 bif y2.fst then
  bif y3.fst then
   some (0, ())
  else some (-1, ())
 else bif y3.fst then
  some (1, ())
 else bif Op.bytesLess (ByteArray.toList s0) (ByteArray.toList s1) then
  some (-1, ())
 else bif !(Op.bytesLess (ByteArray.toList s0) (ByteArray.toList s1) || s0 == s1) then
  some (1, ())
 else some (0, ()) := by kernel_rfl
theorem z38_c (n : Nat) (s0 : ByteArray) (s1 : ByteArray) (y : Int × Unit) (h : z38_v n s0 s1 = some y) : Contract Try.prog 62 [AV.dv (DV.val (Value.string s0)), AV.dv (DV.val (Value.string s1))] [] (OSh.enc (OSh.plain (.i IntKind.i64) []) y) :=
 auto_okM tm_std (with_ok mixed (by kernel_rfl) (z38_σok n) n 0 [1000045, 1000059]) (with_pick mixed (by kernel_rfl) (z38_σok n) n 0 [1000045, 1000059]) mixed Try.func62 (by decide) (o := (OSh.plain (.i IntKind.i64) [])) h
def z56_lv : Live := [(3, [3, 6, 7, 8], [1000, 1001, 1002, 1003])]
noncomputable def z56_σ (n : Nat) : Spec := (bookH Spec.none)
theorem z56_σok (n : Nat) : SpecOk Try.prog (z56_σ n) := (bookH_ok (SpecOk.none _))
noncomputable def z56_Φ (n : Nat) : Orc := with_ Try.prog (z56_σ n) [] n 0 [1000045, 1000059]
noncomputable def z56_v (n : Nat) (b0 : Bool) (r1 : Rows) : Option (Int × Unit) :=
 DM.denFn tm (z56_Φ n) z56_lv n Try.f61 false [AV.sl b0 [Kd.i IntKind.i64] r1 Right.no] [] (OSh.chk (OSh.plain (.i IntKind.i64) []))
noncomputable def z56_l3 (n : Nat) (b0 : Bool) (r1 : Rows) (i0 : Nat) (j2 : Int) : Option (Int × Unit) :=
 DM.loopFn tm (z56_Φ n) z56_lv n Try.f61 false [] (OSh.chk (OSh.plain (.i IntKind.i64) [])) 3 [] i0 (St.mk [AV.junk, AV.junk, AV.junk, AV.dv (DV.val (Value.int IntKind.i64 0)), AV.junk, AV.junk, AV.sl b0 [Kd.i IntKind.i64] r1 Right.no, AV.dv (DV.val (Value.int IntKind.i64 (↑(List.length r1) : Int))), AV.dv (DV.val (Value.int IntKind.i64 j2)), AV.junk, AV.junk, AV.junk, AV.junk, AV.junk, AV.junk, AV.junk, AV.junk, AV.junk] [])
theorem z56_s3 (n : Nat) (b0 : Bool) (r1 : Rows) (i0 : Nat) (j2 : Int) : z56_l3 n b0 r1 (i0 + 1) j2 =
 bif decide (j2 < (↑(List.length r1) : Int)) then
  if 0 ≤ j2 then
   if j2 < (↑(List.length r1) : Int) then
    bif Row.I (List.getD r1 (Int.toNat j2) []) 0 != 0 then
     some (Row.I (List.getD r1 (Int.toNat j2) []) 0, ())
    else z56_l3 n b0 r1 i0 (IntKind.wrap IntKind.i64 (j2 + 1))
   else none
  else none
 else some (0, ()) := by kernel_rfl
theorem z56_e (n : Nat) (b0 : Bool) (r1 : Rows) : z56_v n b0 r1 =
 z56_l3 n b0 r1 n 0 := by kernel_rfl
theorem z56_c (n : Nat) (b0 : Bool) (r1 : Rows) (y : Int × Unit) (h : z56_v n b0 r1 = some y) : Contract Try.prog 61 [AV.sl b0 [Kd.i IntKind.i64] r1 Right.no] [] (OSh.enc (OSh.plain (.i IntKind.i64) []) y) :=
 auto_okM tm_std (with_ok mixed (by kernel_rfl) (z56_σok n) n 0 [1000045, 1000059]) (with_pick mixed (by kernel_rfl) (z56_σok n) n 0 [1000045, 1000059]) mixed Try.func61 (by decide) (o := (OSh.plain (.i IntKind.i64) [])) h
def z35_lv : Live := []
noncomputable def z35_σ (n : Nat) : Spec := (inst 70 [.i IntKind.i64, .i IntKind.i64] [] (OSh.plain (.i IntKind.i64) []) (fun x e => z26_v n x.1 x.2.1) (inst 62 [.s, .s] [] (OSh.plain (.i IntKind.i64) []) (fun x e => z38_v n x.1 x.2.1) (inst 61 [.sl [Kd.i IntKind.i64]] [] (OSh.plain (.i IntKind.i64) []) (fun x e => z56_v n x.1.1 x.1.2) (bookH Spec.none))))
theorem z35_σok (n : Nat) : SpecOk Try.prog (z35_σ n) := (inst_ok (fun x e y h => z26_c n x.1 x.2.1 y h) (inst_ok (fun x e y h => z38_c n x.1 x.2.1 y h) (inst_ok (fun x e y h => z56_c n x.1.1 x.1.2 y h) (bookH_ok (SpecOk.none _)))))
noncomputable def z35_Φ (n : Nat) : Orc := with_ Try.prog (z35_σ n) [] n 0 [1000045, 1000059]
noncomputable def z35_v (n : Nat) (b0 : Bool) (j1 : Int) (s2 : ByteArray) (b3 : Bool) (j4 : Int) (s5 : ByteArray) : Option (Int × Unit) :=
 DM.denFn tm (z35_Φ n) z35_lv n Try.f64 false [AV.agg [AV.dv (DV.val (Value.bool b0)), AV.dv (DV.val (Value.int IntKind.i64 j1)), AV.dv (DV.val (Value.string s2))], AV.agg [AV.dv (DV.val (Value.bool b3)), AV.dv (DV.val (Value.int IntKind.i64 j4)), AV.dv (DV.val (Value.string s5))]] [] (OSh.chk (OSh.plain (.i IntKind.i64) []))
theorem z35_e (n : Nat) (b0 : Bool) (j1 : Int) (s2 : ByteArray) (b3 : Bool) (j4 : Int) (s5 : ByteArray) : z35_v n b0 j1 s2 b3 j4 s5 =
 bif !b0 == b3 then
  bif b0 then
   some (-1, ())
  else some (1, ())
 else obind (z26_v n j1 j4) fun y6 =>
 obind (z38_v n s2 s5) fun y7 =>
 obind (z56_v n false ([[DV.val (Value.int IntKind.i64 y6.fst)], [DV.val (Value.int IntKind.i64 y7.fst)]])) fun y8 =>
 some (y8.fst, ()) := by kernel_rfl
theorem z35_c (n : Nat) (b0 : Bool) (j1 : Int) (s2 : ByteArray) (b3 : Bool) (j4 : Int) (s5 : ByteArray) (y : Int × Unit) (h : z35_v n b0 j1 s2 b3 j4 s5 = some y) : Contract Try.prog 64 [AV.agg [AV.dv (DV.val (Value.bool b0)), AV.dv (DV.val (Value.int IntKind.i64 j1)), AV.dv (DV.val (Value.string s2))], AV.agg [AV.dv (DV.val (Value.bool b3)), AV.dv (DV.val (Value.int IntKind.i64 j4)), AV.dv (DV.val (Value.string s5))]] [] (OSh.enc (OSh.plain (.i IntKind.i64) []) y) :=
 auto_okM tm_std (with_ok mixed (by kernel_rfl) (z35_σok n) n 0 [1000045, 1000059]) (with_pick mixed (by kernel_rfl) (z35_σok n) n 0 [1000045, 1000059]) mixed Try.func64 (by decide) (o := (OSh.plain (.i IntKind.i64) [])) h
def z5_lv : Live := [(2, [0, 1, 2, 11, 12, 13], [1000, 1001, 1002, 1003])]
noncomputable def z5_σ (n : Nat) : Spec := (inst 64 [.agg [.b, .i IntKind.i64, .s], .agg [.b, .i IntKind.i64, .s]] [] (OSh.plain (.i IntKind.i64) []) (fun x e => z35_v n x.1.1 x.1.2.1 x.1.2.2.1 x.2.1.1 x.2.1.2.1 x.2.1.2.2.1) (bookH Spec.none))
theorem z5_σok (n : Nat) : SpecOk Try.prog (z5_σ n) := (inst_ok (fun x e y h => z35_c n x.1.1 x.1.2.1 x.1.2.2.1 x.2.1.1 x.2.1.2.1 x.2.1.2.2.1 y h) (bookH_ok (SpecOk.none _)))
noncomputable def z5_Φ (n : Nat) : Orc := with_ Try.prog (z5_σ n) [] n 0 [1000045, 1000059]
noncomputable def z5_v (n : Nat) (b0 : Bool) (r1 : Rows) (b2 : Bool) (r3 : Rows) : Option (Int × Unit) :=
 DM.denFn tm (z5_Φ n) z5_lv n Try.f63 false [AV.sl b0 [Kd.b, Kd.i IntKind.i64, Kd.s] r1 Right.no, AV.sl b2 [Kd.b, Kd.i IntKind.i64, Kd.s] r3 Right.no, AV.fn 64 []] [] (OSh.chk (OSh.plain (.i IntKind.i64) []))
noncomputable def z5_l2 (n : Nat) (b0 : Bool) (r1 : Rows) (b2 : Bool) (r3 : Rows) (i0 : Nat) (j5 : Int) : Option (Int × Unit) :=
 DM.loopFn tm (z5_Φ n) z5_lv n Try.f63 false [] (OSh.chk (OSh.plain (.i IntKind.i64) [])) 2 [] i0 (St.mk [AV.sl b0 [Kd.b, Kd.i IntKind.i64, Kd.s] r1 Right.no, AV.sl b2 [Kd.b, Kd.i IntKind.i64, Kd.s] r3 Right.no, AV.fn 64 [], AV.junk, AV.junk, AV.junk, AV.junk, AV.junk, AV.junk, AV.junk, AV.junk, AV.sl b0 [Kd.b, Kd.i IntKind.i64, Kd.s] r1 Right.no, AV.dv (DV.val (Value.int IntKind.i64 (↑(List.length r1) : Int))), AV.dv (DV.val (Value.int IntKind.i64 j5)), AV.junk, AV.junk, AV.junk, AV.junk, AV.junk, AV.junk, AV.junk, AV.junk, AV.junk, AV.junk, AV.junk, AV.junk, AV.junk, AV.junk, AV.junk, AV.junk, AV.junk, AV.junk, AV.junk, AV.junk, AV.junk, AV.junk, AV.junk, AV.junk, AV.junk] [])
theorem z5_s2 (n : Nat) (b0 : Bool) (r1 : Rows) (b2 : Bool) (r3 : Rows) (i0 : Nat) (j5 : Int) : z5_l2 n b0 r1 b2 r3 (i0 + 1) j5 =
 bif decide (j5 < (↑(List.length r1) : Int)) then
  if 0 ≤ j5 then
   if j5 < (↑(List.length r1) : Int) then
    bif decide (j5 ≥ (↑(List.length r3) : Int)) then
     some (1, ())
    else if 0 ≤ j5 then
     if j5 < (↑(List.length r3) : Int) then
      obind (z35_v n (Row.B (List.getD r1 (Int.toNat j5) []) 0) (Row.I (List.getD r1 (Int.toNat j5) []) 1) (Row.S (List.getD r1 (Int.toNat j5) []) 2) (Row.B (List.getD r3 (Int.toNat j5) []) 0) (Row.I (List.getD r3 (Int.toNat j5) []) 1) (Row.S (List.getD r3 (Int.toNat j5) []) 2)) fun y6 =>
      bif y6.fst != 0 then
       some (y6.fst, ())
      else z5_l2 n b0 r1 b2 r3 i0 (IntKind.wrap IntKind.i64 (j5 + 1))
     else none
    else none
   else none
  else none
 else bif decide ((↑(List.length r1) : Int) < (↑(List.length r3) : Int)) then
  some (-1, ())
 else some (0, ()) := by kernel_rfl
theorem z5_e (n : Nat) (b0 : Bool) (r1 : Rows) (b2 : Bool) (r3 : Rows) : z5_v n b0 r1 b2 r3 =
 z5_l2 n b0 r1 b2 r3 n 0 := by kernel_rfl
theorem z5_c (n : Nat) (b0 : Bool) (r1 : Rows) (b2 : Bool) (r3 : Rows) (y : Int × Unit) (h : z5_v n b0 r1 b2 r3 = some y) : Contract Try.prog 63 [AV.sl b0 [Kd.b, Kd.i IntKind.i64, Kd.s] r1 Right.no, AV.sl b2 [Kd.b, Kd.i IntKind.i64, Kd.s] r3 Right.no, AV.fn 64 []] [] (OSh.enc (OSh.plain (.i IntKind.i64) []) y) :=
 auto_okM tm_std (with_ok mixed (by kernel_rfl) (z5_σok n) n 0 [1000045, 1000059]) (with_pick mixed (by kernel_rfl) (z5_σok n) n 0 [1000045, 1000059]) mixed Try.func63 (by decide) (o := (OSh.plain (.i IntKind.i64) [])) h
def z46_lv : Live := []
noncomputable def z46_σ (n : Nat) : Spec := (inst 62 [.s, .s] [] (OSh.plain (.i IntKind.i64) []) (fun x e => z38_v n x.1 x.2.1) (inst 63 [.sl [Kd.b, Kd.i IntKind.i64, Kd.s], .sl [Kd.b, Kd.i IntKind.i64, Kd.s], .fn 64 []] [] (OSh.plain (.i IntKind.i64) []) (fun x e => z5_v n x.1.1 x.1.2 x.2.1.1 x.2.1.2) (inst 61 [.sl [Kd.i IntKind.i64]] [] (OSh.plain (.i IntKind.i64) []) (fun x e => z56_v n x.1.1 x.1.2) (bookH Spec.none))))
theorem z46_σok (n : Nat) : SpecOk Try.prog (z46_σ n) := (inst_ok (fun x e y h => z38_c n x.1 x.2.1 y h) (inst_ok (fun x e y h => z5_c n x.1.1 x.1.2 x.2.1.1 x.2.1.2 y h) (inst_ok (fun x e y h => z56_c n x.1.1 x.1.2 y h) (bookH_ok (SpecOk.none _)))))
noncomputable def z46_Φ (n : Nat) : Orc := with_ Try.prog (z46_σ n) [] n 0 [1000045, 1000059]
noncomputable def z46_v (n : Nat) (s0 : ByteArray) (s1 : ByteArray) (s2 : ByteArray) (b3 : Bool) (r4 : Rows) (s5 : ByteArray) (s6 : ByteArray) (s7 : ByteArray) (b8 : Bool) (r9 : Rows) : Option (Int × Unit) :=
 DM.denFn tm (z46_Φ n) z46_lv n Try.f40 false [AV.agg [AV.dv (DV.val (Value.string s0)), AV.dv (DV.val (Value.string s1)), AV.dv (DV.val (Value.string s2)), AV.sl b3 [Kd.b, Kd.i IntKind.i64, Kd.s] r4 Right.no], AV.agg [AV.dv (DV.val (Value.string s5)), AV.dv (DV.val (Value.string s6)), AV.dv (DV.val (Value.string s7)), AV.sl b8 [Kd.b, Kd.i IntKind.i64, Kd.s] r9 Right.no]] [] (OSh.chk (OSh.plain (.i IntKind.i64) []))
theorem z46_e (n : Nat) (s0 : ByteArray) (s1 : ByteArray) (s2 : ByteArray) (b3 : Bool) (r4 : Rows) (s5 : ByteArray) (s6 : ByteArray) (s7 : ByteArray) (b8 : Bool) (r9 : Rows) : z46_v n s0 s1 s2 b3 r4 s5 s6 s7 b8 r9 =
 obind (z38_v n s0 s5) fun y10 =>
 obind (z38_v n s1 s6) fun y11 =>
 obind (z38_v n s2 s7) fun y12 =>
 obind (z5_v n b3 r4 b8 r9) fun y13 =>
 obind (z56_v n false ([[DV.val (Value.int IntKind.i64 y10.fst)], [DV.val (Value.int IntKind.i64 y11.fst)], [DV.val (Value.int IntKind.i64 y12.fst)], [DV.val (Value.int IntKind.i64 y13.fst)]])) fun y14 =>
 some (y14.fst, ()) := by kernel_rfl
theorem z46_c (n : Nat) (s0 : ByteArray) (s1 : ByteArray) (s2 : ByteArray) (b3 : Bool) (r4 : Rows) (s5 : ByteArray) (s6 : ByteArray) (s7 : ByteArray) (b8 : Bool) (r9 : Rows) (y : Int × Unit) (h : z46_v n s0 s1 s2 b3 r4 s5 s6 s7 b8 r9 = some y) : Contract Try.prog 40 [AV.agg [AV.dv (DV.val (Value.string s0)), AV.dv (DV.val (Value.string s1)), AV.dv (DV.val (Value.string s2)), AV.sl b3 [Kd.b, Kd.i IntKind.i64, Kd.s] r4 Right.no], AV.agg [AV.dv (DV.val (Value.string s5)), AV.dv (DV.val (Value.string s6)), AV.dv (DV.val (Value.string s7)), AV.sl b8 [Kd.b, Kd.i IntKind.i64, Kd.s] r9 Right.no]] [] (OSh.enc (OSh.plain (.i IntKind.i64) []) y) :=
 auto_okM tm_std (with_ok mixed (by kernel_rfl) (z46_σok n) n 0 [1000045, 1000059]) (with_pick mixed (by kernel_rfl) (z46_σok n) n 0 [1000045, 1000059]) mixed Try.func40 (by decide) (o := (OSh.plain (.i IntKind.i64) [])) h
def z4_lv : Live := [(2, [0, 1, 2, 11, 12, 13], [1000, 1001, 1002, 1003])]
noncomputable def z4_σ (n : Nat) : Spec := (inst 40 [.agg [.s, .s, .s, .sl [Kd.b, Kd.i IntKind.i64, Kd.s]], .agg [.s, .s, .s, .sl [Kd.b, Kd.i IntKind.i64, Kd.s]]] [] (OSh.plain (.i IntKind.i64) []) (fun x e => z46_v n x.1.1 x.1.2.1 x.1.2.2.1 x.1.2.2.2.1.1 x.1.2.2.2.1.2 x.2.1.1 x.2.1.2.1 x.2.1.2.2.1 x.2.1.2.2.2.1.1 x.2.1.2.2.2.1.2) (bookH Spec.none))
theorem z4_σok (n : Nat) : SpecOk Try.prog (z4_σ n) := (inst_ok (fun x e y h => z46_c n x.1.1 x.1.2.1 x.1.2.2.1 x.1.2.2.2.1.1 x.1.2.2.2.1.2 x.2.1.1 x.2.1.2.1 x.2.1.2.2.1 x.2.1.2.2.2.1.1 x.2.1.2.2.2.1.2 y h) (bookH_ok (SpecOk.none _)))
noncomputable def z4_Φ (n : Nat) : Orc := with_ Try.prog (z4_σ n) [] n 0 [1000045, 1000059]
noncomputable def z4_v (n : Nat) (b0 : Bool) (r1 : Rows) (b2 : Bool) (r3 : Rows) : Option (Int × Unit) :=
 DM.denFn tm (z4_Φ n) z4_lv n Try.f71 false [AV.sl b0 [Kd.s, Kd.s, Kd.s, Kd.sl [Kd.b, Kd.i IntKind.i64, Kd.s]] r1 Right.no, AV.sl b2 [Kd.s, Kd.s, Kd.s, Kd.sl [Kd.b, Kd.i IntKind.i64, Kd.s]] r3 Right.no, AV.fn 40 []] [] (OSh.chk (OSh.plain (.i IntKind.i64) []))
noncomputable def z4_l2 (n : Nat) (b0 : Bool) (r1 : Rows) (b2 : Bool) (r3 : Rows) (i0 : Nat) (j5 : Int) : Option (Int × Unit) :=
 DM.loopFn tm (z4_Φ n) z4_lv n Try.f71 false [] (OSh.chk (OSh.plain (.i IntKind.i64) [])) 2 [] i0 (St.mk [AV.sl b0 [Kd.s, Kd.s, Kd.s, Kd.sl [Kd.b, Kd.i IntKind.i64, Kd.s]] r1 Right.no, AV.sl b2 [Kd.s, Kd.s, Kd.s, Kd.sl [Kd.b, Kd.i IntKind.i64, Kd.s]] r3 Right.no, AV.fn 40 [], AV.junk, AV.junk, AV.junk, AV.junk, AV.junk, AV.junk, AV.junk, AV.junk, AV.sl b0 [Kd.s, Kd.s, Kd.s, Kd.sl [Kd.b, Kd.i IntKind.i64, Kd.s]] r1 Right.no, AV.dv (DV.val (Value.int IntKind.i64 (↑(List.length r1) : Int))), AV.dv (DV.val (Value.int IntKind.i64 j5)), AV.junk, AV.junk, AV.junk, AV.junk, AV.junk, AV.junk, AV.junk, AV.junk, AV.junk, AV.junk, AV.junk, AV.junk, AV.junk, AV.junk, AV.junk, AV.junk, AV.junk, AV.junk, AV.junk, AV.junk, AV.junk, AV.junk, AV.junk, AV.junk, AV.junk] [])
theorem z4_s2 (n : Nat) (b0 : Bool) (r1 : Rows) (b2 : Bool) (r3 : Rows) (i0 : Nat) (j5 : Int) : z4_l2 n b0 r1 b2 r3 (i0 + 1) j5 =
 bif decide (j5 < (↑(List.length r1) : Int)) then
  if 0 ≤ j5 then
   if j5 < (↑(List.length r1) : Int) then
    bif decide (j5 ≥ (↑(List.length r3) : Int)) then
     some (1, ())
    else if 0 ≤ j5 then
     if j5 < (↑(List.length r3) : Int) then
      obind (z46_v n (Row.S (List.getD r1 (Int.toNat j5) []) 0) (Row.S (List.getD r1 (Int.toNat j5) []) 1) (Row.S (List.getD r1 (Int.toNat j5) []) 2) (Row.N (List.getD r1 (Int.toNat j5) []) 3) (Row.R (List.getD r1 (Int.toNat j5) []) 3) (Row.S (List.getD r3 (Int.toNat j5) []) 0) (Row.S (List.getD r3 (Int.toNat j5) []) 1) (Row.S (List.getD r3 (Int.toNat j5) []) 2) (Row.N (List.getD r3 (Int.toNat j5) []) 3) (Row.R (List.getD r3 (Int.toNat j5) []) 3)) fun y6 =>
      bif y6.fst != 0 then
       some (y6.fst, ())
      else z4_l2 n b0 r1 b2 r3 i0 (IntKind.wrap IntKind.i64 (j5 + 1))
     else none
    else none
   else none
  else none
 else bif decide ((↑(List.length r1) : Int) < (↑(List.length r3) : Int)) then
  some (-1, ())
 else some (0, ()) := by kernel_rfl
theorem z4_e (n : Nat) (b0 : Bool) (r1 : Rows) (b2 : Bool) (r3 : Rows) : z4_v n b0 r1 b2 r3 =
 z4_l2 n b0 r1 b2 r3 n 0 := by kernel_rfl
theorem z4_c (n : Nat) (b0 : Bool) (r1 : Rows) (b2 : Bool) (r3 : Rows) (y : Int × Unit) (h : z4_v n b0 r1 b2 r3 = some y) : Contract Try.prog 71 [AV.sl b0 [Kd.s, Kd.s, Kd.s, Kd.sl [Kd.b, Kd.i IntKind.i64, Kd.s]] r1 Right.no, AV.sl b2 [Kd.s, Kd.s, Kd.s, Kd.sl [Kd.b, Kd.i IntKind.i64, Kd.s]] r3 Right.no, AV.fn 40 []] [] (OSh.enc (OSh.plain (.i IntKind.i64) []) y) :=
 auto_okM tm_std (with_ok mixed (by kernel_rfl) (z4_σok n) n 0 [1000045, 1000059]) (with_pick mixed (by kernel_rfl) (z4_σok n) n 0 [1000045, 1000059]) mixed Try.func71 (by decide) (o := (OSh.plain (.i IntKind.i64) [])) h
def z45_lv : Live := []
noncomputable def z45_σ (n : Nat) : Spec := (inst 70 [.i IntKind.i64, .i IntKind.i64] [] (OSh.plain (.i IntKind.i64) []) (fun x e => z26_v n x.1 x.2.1) (inst 40 [.agg [.s, .s, .s, .sl [Kd.b, Kd.i IntKind.i64, Kd.s]], .agg [.s, .s, .s, .sl [Kd.b, Kd.i IntKind.i64, Kd.s]]] [] (OSh.plain (.i IntKind.i64) []) (fun x e => z46_v n x.1.1 x.1.2.1 x.1.2.2.1 x.1.2.2.2.1.1 x.1.2.2.2.1.2 x.2.1.1 x.2.1.2.1 x.2.1.2.2.1 x.2.1.2.2.2.1.1 x.2.1.2.2.2.1.2) (inst 71 [.sl [Kd.s, Kd.s, Kd.s, Kd.sl [Kd.b, Kd.i IntKind.i64, Kd.s]], .sl [Kd.s, Kd.s, Kd.s, Kd.sl [Kd.b, Kd.i IntKind.i64, Kd.s]], .fn 40 []] [] (OSh.plain (.i IntKind.i64) []) (fun x e => z4_v n x.1.1 x.1.2 x.2.1.1 x.2.1.2) (inst 61 [.sl [Kd.i IntKind.i64]] [] (OSh.plain (.i IntKind.i64) []) (fun x e => z56_v n x.1.1 x.1.2) (bookH Spec.none)))))
theorem z45_σok (n : Nat) : SpecOk Try.prog (z45_σ n) := (inst_ok (fun x e y h => z26_c n x.1 x.2.1 y h) (inst_ok (fun x e y h => z46_c n x.1.1 x.1.2.1 x.1.2.2.1 x.1.2.2.2.1.1 x.1.2.2.2.1.2 x.2.1.1 x.2.1.2.1 x.2.1.2.2.1 x.2.1.2.2.2.1.1 x.2.1.2.2.2.1.2 y h) (inst_ok (fun x e y h => z4_c n x.1.1 x.1.2 x.2.1.1 x.2.1.2 y h) (inst_ok (fun x e y h => z56_c n x.1.1 x.1.2 y h) (bookH_ok (SpecOk.none _))))))
noncomputable def z45_Φ (n : Nat) : Orc := with_ Try.prog (z45_σ n) [] n 0 [1000045, 1000059]
noncomputable def z45_v (n : Nat) (j0 : Int) (s1 : ByteArray) (s2 : ByteArray) (s3 : ByteArray) (b4 : Bool) (r5 : Rows) (b6 : Bool) (r7 : Rows) (j8 : Int) (s9 : ByteArray) (s10 : ByteArray) (s11 : ByteArray) (b12 : Bool) (r13 : Rows) (b14 : Bool) (r15 : Rows) : Option (Int × Unit) :=
 DM.denFn tm (z45_Φ n) z45_lv n Try.f51 false [AV.agg [AV.dv (DV.val (Value.int IntKind.i64 j0)), AV.dv (DV.val (Value.string s1)), AV.dv (DV.val (Value.string s2)), AV.dv (DV.val (Value.string s3)), AV.sl b4 [Kd.b, Kd.i IntKind.i64, Kd.s] r5 Right.no, AV.sl b6 [Kd.s, Kd.s, Kd.s, Kd.sl [Kd.b, Kd.i IntKind.i64, Kd.s]] r7 Right.no], AV.agg [AV.dv (DV.val (Value.int IntKind.i64 j8)), AV.dv (DV.val (Value.string s9)), AV.dv (DV.val (Value.string s10)), AV.dv (DV.val (Value.string s11)), AV.sl b12 [Kd.b, Kd.i IntKind.i64, Kd.s] r13 Right.no, AV.sl b14 [Kd.s, Kd.s, Kd.s, Kd.sl [Kd.b, Kd.i IntKind.i64, Kd.s]] r15 Right.no]] [] (OSh.chk (OSh.plain (.i IntKind.i64) []))
theorem z45_e (n : Nat) (j0 : Int) (s1 : ByteArray) (s2 : ByteArray) (s3 : ByteArray) (b4 : Bool) (r5 : Rows) (b6 : Bool) (r7 : Rows) (j8 : Int) (s9 : ByteArray) (s10 : ByteArray) (s11 : ByteArray) (b12 : Bool) (r13 : Rows) (b14 : Bool) (r15 : Rows) : z45_v n j0 s1 s2 s3 b4 r5 b6 r7 j8 s9 s10 s11 b12 r13 b14 r15 =
 obind (z26_v n j0 j8) fun y16 =>
 obind (z46_v n s1 s2 s3 b4 r5 s9 s10 s11 b12 r13) fun y17 =>
 obind (z4_v n b6 r7 b14 r15) fun y18 =>
 obind (z56_v n false ([[DV.val (Value.int IntKind.i64 y16.fst)], [DV.val (Value.int IntKind.i64 y17.fst)], [DV.val (Value.int IntKind.i64 y18.fst)]])) fun y19 =>
 some (y19.fst, ()) := by kernel_rfl
theorem z45_c (n : Nat) (j0 : Int) (s1 : ByteArray) (s2 : ByteArray) (s3 : ByteArray) (b4 : Bool) (r5 : Rows) (b6 : Bool) (r7 : Rows) (j8 : Int) (s9 : ByteArray) (s10 : ByteArray) (s11 : ByteArray) (b12 : Bool) (r13 : Rows) (b14 : Bool) (r15 : Rows) (y : Int × Unit) (h : z45_v n j0 s1 s2 s3 b4 r5 b6 r7 j8 s9 s10 s11 b12 r13 b14 r15 = some y) : Contract Try.prog 51 [AV.agg [AV.dv (DV.val (Value.int IntKind.i64 j0)), AV.dv (DV.val (Value.string s1)), AV.dv (DV.val (Value.string s2)), AV.dv (DV.val (Value.string s3)), AV.sl b4 [Kd.b, Kd.i IntKind.i64, Kd.s] r5 Right.no, AV.sl b6 [Kd.s, Kd.s, Kd.s, Kd.sl [Kd.b, Kd.i IntKind.i64, Kd.s]] r7 Right.no], AV.agg [AV.dv (DV.val (Value.int IntKind.i64 j8)), AV.dv (DV.val (Value.string s9)), AV.dv (DV.val (Value.string s10)), AV.dv (DV.val (Value.string s11)), AV.sl b12 [Kd.b, Kd.i IntKind.i64, Kd.s] r13 Right.no, AV.sl b14 [Kd.s, Kd.s, Kd.s, Kd.sl [Kd.b, Kd.i IntKind.i64, Kd.s]] r15 Right.no]] [] (OSh.enc (OSh.plain (.i IntKind.i64) []) y) :=
 auto_okM tm_std (with_ok mixed (by kernel_rfl) (z45_σok n) n 0 [1000045, 1000059]) (with_pick mixed (by kernel_rfl) (z45_σok n) n 0 [1000045, 1000059]) mixed Try.func51 (by decide) (o := (OSh.plain (.i IntKind.i64) [])) h
def z0_lv : Live := [(3, [0, 2, 4, 8, 9, 10], [4, 1000, 1001, 1002, 1003])]
noncomputable def z0_σ (n : Nat) : Spec := (inst 51 [.agg [.i IntKind.i64, .s, .s, .s, .sl [Kd.b, Kd.i IntKind.i64, Kd.s], .sl [Kd.s, Kd.s, Kd.s, Kd.sl [Kd.b, Kd.i IntKind.i64, Kd.s]]], .agg [.i IntKind.i64, .s, .s, .s, .sl [Kd.b, Kd.i IntKind.i64, Kd.s], .sl [Kd.s, Kd.s, Kd.s, Kd.sl [Kd.b, Kd.i IntKind.i64, Kd.s]]]] [] (OSh.plain (.i IntKind.i64) []) (fun x e => z45_v n x.1.1 x.1.2.1 x.1.2.2.1 x.1.2.2.2.1 x.1.2.2.2.2.1.1 x.1.2.2.2.2.1.2 x.1.2.2.2.2.2.1.1 x.1.2.2.2.2.2.1.2 x.2.1.1 x.2.1.2.1 x.2.1.2.2.1 x.2.1.2.2.2.1 x.2.1.2.2.2.2.1.1 x.2.1.2.2.2.2.1.2 x.2.1.2.2.2.2.2.1.1 x.2.1.2.2.2.2.2.1.2) (bookH Spec.none))
theorem z0_σok (n : Nat) : SpecOk Try.prog (z0_σ n) := (inst_ok (fun x e y h => z45_c n x.1.1 x.1.2.1 x.1.2.2.1 x.1.2.2.2.1 x.1.2.2.2.2.1.1 x.1.2.2.2.2.1.2 x.1.2.2.2.2.2.1.1 x.1.2.2.2.2.2.1.2 x.2.1.1 x.2.1.2.1 x.2.1.2.2.1 x.2.1.2.2.2.1 x.2.1.2.2.2.2.1.1 x.2.1.2.2.2.2.1.2 x.2.1.2.2.2.2.2.1.1 x.2.1.2.2.2.2.2.1.2 y h) (bookH_ok (SpecOk.none _)))
noncomputable def z0_Φ (n : Nat) : Orc := with_ Try.prog (z0_σ n) [] n 0 [1000045, 1000059]
noncomputable def z0_v (n : Nat) (b0 : Bool) (r1 : Rows) (j2 : Int) (s3 : ByteArray) (s4 : ByteArray) (s5 : ByteArray) (b6 : Bool) (r7 : Rows) (b8 : Bool) (r9 : Rows) : Option ((Int × Bool × Unit) × Unit) :=
 DM.denFn tm (z0_Φ n) z0_lv n Try.f50 false [AV.sl b0 [Kd.i IntKind.i64, Kd.s, Kd.s, Kd.s, Kd.sl [Kd.b, Kd.i IntKind.i64, Kd.s], Kd.sl [Kd.s, Kd.s, Kd.s, Kd.sl [Kd.b, Kd.i IntKind.i64, Kd.s]]] r1 Right.no, AV.agg [AV.dv (DV.val (Value.int IntKind.i64 j2)), AV.dv (DV.val (Value.string s3)), AV.dv (DV.val (Value.string s4)), AV.dv (DV.val (Value.string s5)), AV.sl b6 [Kd.b, Kd.i IntKind.i64, Kd.s] r7 Right.no, AV.sl b8 [Kd.s, Kd.s, Kd.s, Kd.sl [Kd.b, Kd.i IntKind.i64, Kd.s]] r9 Right.no], AV.fn 51 []] [] (OSh.chk (OSh.plain (.tup [.i IntKind.i64, .b]) []))
noncomputable def z0_l3 (n : Nat) (b0 : Bool) (r1 : Rows) (j2 : Int) (s3 : ByteArray) (s4 : ByteArray) (s5 : ByteArray) (b6 : Bool) (r7 : Rows) (b8 : Bool) (r9 : Rows) (i0 : Nat) (j12 : Int) (j13 : Int) : Option ((Int × Bool × Unit) × Unit) :=
 DM.loopFn tm (z0_Φ n) z0_lv n Try.f50 false [] (OSh.chk (OSh.plain (.tup [.i IntKind.i64, .b]) [])) 3 [] i0 (St.mk [AV.sl b0 [Kd.i IntKind.i64, Kd.s, Kd.s, Kd.s, Kd.sl [Kd.b, Kd.i IntKind.i64, Kd.s], Kd.sl [Kd.s, Kd.s, Kd.s, Kd.sl [Kd.b, Kd.i IntKind.i64, Kd.s]]] r1 Right.no, AV.junk, AV.fn 51 [], AV.junk, AV.pl 4 0, AV.junk, AV.junk, AV.junk, AV.dv (DV.val (Value.int IntKind.i64 (↑(List.length r1) : Int))), AV.dv (DV.val (Value.int IntKind.i64 j12)), AV.dv (DV.val (Value.int IntKind.i64 j13)), AV.junk, AV.junk, AV.junk, AV.junk, AV.junk, AV.junk, AV.junk, AV.junk, AV.junk, AV.junk, AV.junk, AV.junk, AV.junk, AV.junk, AV.junk, AV.junk, AV.junk, AV.junk, AV.junk, AV.junk, AV.junk, AV.junk, AV.junk, AV.junk, AV.junk, AV.junk, AV.junk, AV.junk, AV.junk, AV.junk, AV.junk, AV.junk, AV.junk, AV.junk, AV.junk, AV.junk, AV.junk, AV.junk] [(4, [AV.dv (DV.val (Value.int IntKind.i64 j2)), AV.dv (DV.val (Value.string s3)), AV.dv (DV.val (Value.string s4)), AV.dv (DV.val (Value.string s5)), AV.sl b6 [Kd.b, Kd.i IntKind.i64, Kd.s] r7 Right.no, AV.sl b8 [Kd.s, Kd.s, Kd.s, Kd.sl [Kd.b, Kd.i IntKind.i64, Kd.s]] r9 Right.no])])
theorem z0_s3 (n : Nat) (b0 : Bool) (r1 : Rows) (j2 : Int) (s3 : ByteArray) (s4 : ByteArray) (s5 : ByteArray) (b6 : Bool) (r7 : Rows) (b8 : Bool) (r9 : Rows) (i0 : Nat) (j12 : Int) (j13 : Int) : z0_l3 n b0 r1 j2 s3 s4 s5 b6 r7 b8 r9 (i0 + 1) j12 j13 =
 bif decide (j12 < j13) then
  if 0 ≤ IntKind.wrap IntKind.i64 (Int.fdiv (IntKind.wrap IntKind.u64 (IntKind.wrap IntKind.i64 (j12 + j13))) (2 ^ 1)) then
   if IntKind.wrap IntKind.i64 (Int.fdiv (IntKind.wrap IntKind.u64 (IntKind.wrap IntKind.i64 (j12 + j13))) (2 ^ 1)) < (↑(List.length r1) : Int) then
    obind (z45_v n (Row.I (List.getD r1 (Int.toNat (IntKind.wrap IntKind.i64 (Int.fdiv (IntKind.wrap IntKind.u64 (IntKind.wrap IntKind.i64 (j12 + j13))) (2 ^ 1)))) []) 0) (Row.S (List.getD r1 (Int.toNat (IntKind.wrap IntKind.i64 (Int.fdiv (IntKind.wrap IntKind.u64 (IntKind.wrap IntKind.i64 (j12 + j13))) (2 ^ 1)))) []) 1) (Row.S (List.getD r1 (Int.toNat (IntKind.wrap IntKind.i64 (Int.fdiv (IntKind.wrap IntKind.u64 (IntKind.wrap IntKind.i64 (j12 + j13))) (2 ^ 1)))) []) 2) (Row.S (List.getD r1 (Int.toNat (IntKind.wrap IntKind.i64 (Int.fdiv (IntKind.wrap IntKind.u64 (IntKind.wrap IntKind.i64 (j12 + j13))) (2 ^ 1)))) []) 3) (Row.N (List.getD r1 (Int.toNat (IntKind.wrap IntKind.i64 (Int.fdiv (IntKind.wrap IntKind.u64 (IntKind.wrap IntKind.i64 (j12 + j13))) (2 ^ 1)))) []) 4) (Row.R (List.getD r1 (Int.toNat (IntKind.wrap IntKind.i64 (Int.fdiv (IntKind.wrap IntKind.u64 (IntKind.wrap IntKind.i64 (j12 + j13))) (2 ^ 1)))) []) 4) (Row.N (List.getD r1 (Int.toNat (IntKind.wrap IntKind.i64 (Int.fdiv (IntKind.wrap IntKind.u64 (IntKind.wrap IntKind.i64 (j12 + j13))) (2 ^ 1)))) []) 5) (Row.R (List.getD r1 (Int.toNat (IntKind.wrap IntKind.i64 (Int.fdiv (IntKind.wrap IntKind.u64 (IntKind.wrap IntKind.i64 (j12 + j13))) (2 ^ 1)))) []) 5) j2 s3 s4 s5 b6 r7 b8 r9) fun y14 =>
    bif decide (y14.fst < 0) then
     z0_l3 n b0 r1 j2 s3 s4 s5 b6 r7 b8 r9 i0 (IntKind.wrap IntKind.i64 (IntKind.wrap IntKind.i64 (Int.fdiv (IntKind.wrap IntKind.u64 (IntKind.wrap IntKind.i64 (j12 + j13))) (2 ^ 1)) + 1)) j13
    else z0_l3 n b0 r1 j2 s3 s4 s5 b6 r7 b8 r9 i0 j12 (IntKind.wrap IntKind.i64 (Int.fdiv (IntKind.wrap IntKind.u64 (IntKind.wrap IntKind.i64 (j12 + j13))) (2 ^ 1)))
   else none
  else none
 else bif decide (j12 < (↑(List.length r1) : Int)) then
  if 0 ≤ j12 then
   if j12 < (↑(List.length r1) : Int) then
    obind (z45_v n (Row.I (List.getD r1 (Int.toNat j12) []) 0) (Row.S (List.getD r1 (Int.toNat j12) []) 1) (Row.S (List.getD r1 (Int.toNat j12) []) 2) (Row.S (List.getD r1 (Int.toNat j12) []) 3) (Row.N (List.getD r1 (Int.toNat j12) []) 4) (Row.R (List.getD r1 (Int.toNat j12) []) 4) (Row.N (List.getD r1 (Int.toNat j12) []) 5) (Row.R (List.getD r1 (Int.toNat j12) []) 5) j2 s3 s4 s5 b6 r7 b8 r9) fun y15 =>
    some ((j12, (y15.fst == 0, ())), ())
   else none
  else none
 else some ((j12, (false, ())), ()) := by kernel_rfl
theorem z0_e (n : Nat) (b0 : Bool) (r1 : Rows) (j2 : Int) (s3 : ByteArray) (s4 : ByteArray) (s5 : ByteArray) (b6 : Bool) (r7 : Rows) (b8 : Bool) (r9 : Rows) : z0_v n b0 r1 j2 s3 s4 s5 b6 r7 b8 r9 =
 z0_l3 n b0 r1 j2 s3 s4 s5 b6 r7 b8 r9 n 0 ((↑(List.length r1) : Int)) := by kernel_rfl
theorem z0_c (n : Nat) (b0 : Bool) (r1 : Rows) (j2 : Int) (s3 : ByteArray) (s4 : ByteArray) (s5 : ByteArray) (b6 : Bool) (r7 : Rows) (b8 : Bool) (r9 : Rows) (y : (Int × Bool × Unit) × Unit) (h : z0_v n b0 r1 j2 s3 s4 s5 b6 r7 b8 r9 = some y) : Contract Try.prog 50 [AV.sl b0 [Kd.i IntKind.i64, Kd.s, Kd.s, Kd.s, Kd.sl [Kd.b, Kd.i IntKind.i64, Kd.s], Kd.sl [Kd.s, Kd.s, Kd.s, Kd.sl [Kd.b, Kd.i IntKind.i64, Kd.s]]] r1 Right.no, AV.agg [AV.dv (DV.val (Value.int IntKind.i64 j2)), AV.dv (DV.val (Value.string s3)), AV.dv (DV.val (Value.string s4)), AV.dv (DV.val (Value.string s5)), AV.sl b6 [Kd.b, Kd.i IntKind.i64, Kd.s] r7 Right.no, AV.sl b8 [Kd.s, Kd.s, Kd.s, Kd.sl [Kd.b, Kd.i IntKind.i64, Kd.s]] r9 Right.no], AV.fn 51 []] [] (OSh.enc (OSh.plain (.tup [.i IntKind.i64, .b]) []) y) :=
 auto_okM tm_std (with_ok mixed (by kernel_rfl) (z0_σok n) n 0 [1000045, 1000059]) (with_pick mixed (by kernel_rfl) (z0_σok n) n 0 [1000045, 1000059]) mixed Try.func50 (by decide) (o := (OSh.plain (.tup [.i IntKind.i64, .b]) [])) h
def z18_lv : Live := []
noncomputable def z18_σ (n : Nat) : Spec := (bookH Spec.none)
theorem z18_σok (n : Nat) : SpecOk Try.prog (z18_σ n) := (bookH_ok (SpecOk.none _))
noncomputable def z18_Φ (n : Nat) : Orc := with_ Try.prog (z18_σ n) [] n 0 [1000045, 1000059]
noncomputable def z18_v (n : Nat) (b0 : Bool) (r1 : Rows) : Option ((Bool × Rows) × Unit) :=
 DM.denFn tm (z18_Φ n) z18_lv n Try.f57 true [AV.sl b0 [Kd.b, Kd.i IntKind.i64, Kd.s] r1 Right.no] [] (OSh.chk (OSh.plain (.slt [Kd.b, Kd.i IntKind.i64, Kd.s] 0) []))
theorem z18_e (n : Nat) (b0 : Bool) (r1 : Rows) : z18_v n b0 r1 =
 bif b0 then
  some ((true, []), ())
 else if (0 + List.length r1) * 32 ≤ 140737488355328 then
  some ((false && List.isEmpty r1, appX [] r1), ())
 else none := by kernel_rfl
theorem z18_c (n : Nat) (b0 : Bool) (r1 : Rows) (y : (Bool × Rows) × Unit) (h : z18_v n b0 r1 = some y) : Contract Try.prog 57 [AV.sl b0 [Kd.b, Kd.i IntKind.i64, Kd.s] r1 Right.no] [] (OSh.enc (OSh.plain (.slt [Kd.b, Kd.i IntKind.i64, Kd.s] 0) []) y) :=
 auto_okM tm_std (with_ok mixed (by kernel_rfl) (z18_σok n) n 0 [1000045, 1000059]) (with_pick mixed (by kernel_rfl) (z18_σok n) n 0 [1000045, 1000059]) mixed Try.func57 (by decide) (o := (OSh.plain (.slt [Kd.b, Kd.i IntKind.i64, Kd.s] 0) [])) h
def z20_lv : Live := []
noncomputable def z20_σ (n : Nat) : Spec := (bookH Spec.none)
theorem z20_σok (n : Nat) : SpecOk Try.prog (z20_σ n) := (bookH_ok (SpecOk.none _))
noncomputable def z20_Φ (n : Nat) : Orc := with_ Try.prog (z20_σ n) [] n 0 [1000045, 1000059]
noncomputable def z20_v (n : Nat) (b0 : Bool) (r1 : Rows) : Option ((Bool × Rows) × Unit) :=
 DM.denFn tm (z20_Φ n) z20_lv n Try.f67 true [AV.sl b0 [Kd.s, Kd.s, Kd.s, Kd.sl [Kd.b, Kd.i IntKind.i64, Kd.s]] r1 Right.no] [] (OSh.chk (OSh.plain (.slt [Kd.s, Kd.s, Kd.s, Kd.sl [Kd.b, Kd.i IntKind.i64, Kd.s]] 0) []))
theorem z20_e (n : Nat) (b0 : Bool) (r1 : Rows) : z20_v n b0 r1 =
 bif b0 then
  some ((true, []), ())
 else if (0 + List.length r1) * 72 ≤ 140737488355328 then
  some ((false && List.isEmpty r1, appX [] r1), ())
 else none := by kernel_rfl
theorem z20_c (n : Nat) (b0 : Bool) (r1 : Rows) (y : (Bool × Rows) × Unit) (h : z20_v n b0 r1 = some y) : Contract Try.prog 67 [AV.sl b0 [Kd.s, Kd.s, Kd.s, Kd.sl [Kd.b, Kd.i IntKind.i64, Kd.s]] r1 Right.no] [] (OSh.enc (OSh.plain (.slt [Kd.s, Kd.s, Kd.s, Kd.sl [Kd.b, Kd.i IntKind.i64, Kd.s]] 0) []) y) :=
 auto_okM tm_std (with_ok mixed (by kernel_rfl) (z20_σok n) n 0 [1000045, 1000059]) (with_pick mixed (by kernel_rfl) (z20_σok n) n 0 [1000045, 1000059]) mixed Try.func67 (by decide) (o := (OSh.plain (.slt [Kd.s, Kd.s, Kd.s, Kd.sl [Kd.b, Kd.i IntKind.i64, Kd.s]] 0) [])) h
def z55_lv : Live := [(4, [1, 2, 16, 17], [1, 2, 1000, 1001, 1002, 1003]), (1000003, [5, 1, 5], []), (1000006, [6, 1, 5, 40], []), (1000007, [4, 1, 5], [])]
noncomputable def z55_σ (n : Nat) : Spec := (inst 57 [.sl [Kd.b, Kd.i IntKind.i64, Kd.s]] [] (OSh.plain (.slt [Kd.b, Kd.i IntKind.i64, Kd.s] 0) []) (fun x e => z18_v n x.1.1 x.1.2) (inst 67 [.sl [Kd.s, Kd.s, Kd.s, Kd.sl [Kd.b, Kd.i IntKind.i64, Kd.s]]] [] (OSh.plain (.slt [Kd.s, Kd.s, Kd.s, Kd.sl [Kd.b, Kd.i IntKind.i64, Kd.s]] 0) []) (fun x e => z20_v n x.1.1 x.1.2) (bookH Spec.none)))
theorem z55_σok (n : Nat) : SpecOk Try.prog (z55_σ n) := (inst_ok (fun x e y h => z18_c n x.1.1 x.1.2 y h) (inst_ok (fun x e y h => z20_c n x.1.1 x.1.2 y h) (bookH_ok (SpecOk.none _))))
noncomputable def z55_Φ (n : Nat) : Orc := with_ Try.prog (z55_σ n) [] n 0 [1000045, 1000059]
noncomputable def z55_v (n : Nat) (j0 : Int) (s1 : ByteArray) (s2 : ByteArray) (s3 : ByteArray) (b4 : Bool) (r5 : Rows) (b6 : Bool) (r7 : Rows) : Option ((Int × ByteArray × ByteArray × ByteArray × (Bool × Rows) × (Bool × Rows) × Unit) × Unit) :=
 DM.denFn tm (z55_Φ n) z55_lv n Try.f42 false [AV.agg [AV.dv (DV.val (Value.int IntKind.i64 j0)), AV.dv (DV.val (Value.string s1)), AV.dv (DV.val (Value.string s2)), AV.dv (DV.val (Value.string s3)), AV.sl b4 [Kd.b, Kd.i IntKind.i64, Kd.s] r5 Right.no, AV.sl b6 [Kd.s, Kd.s, Kd.s, Kd.sl [Kd.b, Kd.i IntKind.i64, Kd.s]] r7 Right.no]] [] (OSh.chk (OSh.plain (.agg [.i IntKind.i64, .s, .s, .s, .sl [Kd.b, Kd.i IntKind.i64, Kd.s], .sl [Kd.s, Kd.s, Kd.s, Kd.sl [Kd.b, Kd.i IntKind.i64, Kd.s]]]) []))
noncomputable def z55_l4 (n : Nat) (j0 : Int) (s1 : ByteArray) (s2 : ByteArray) (s3 : ByteArray) (b4 : Bool) (r5 : Rows) (b6 : Bool) (r7 : Rows) (i0 : Nat) (j10 : Int) (b11 : Bool) (r12 : List (List DV)) (b13 : Bool) (r14 : List (List DV)) (j16 : Int) : Option ((Int × ByteArray × ByteArray × ByteArray × (Bool × Rows) × (Bool × Rows) × Unit) × Unit) :=
 DM.loopFn tm (z55_Φ n) z55_lv n Try.f42 false [] (OSh.chk (OSh.plain (.agg [.i IntKind.i64, .s, .s, .s, .sl [Kd.b, Kd.i IntKind.i64, Kd.s], .sl [Kd.s, Kd.s, Kd.s, Kd.sl [Kd.b, Kd.i IntKind.i64, Kd.s]]]) [])) 4 [] i0 (St.mk [AV.junk, AV.pl 1 0, AV.pl 2 0, AV.junk, AV.junk, AV.junk, AV.junk, AV.junk, AV.junk, AV.junk, AV.junk, AV.junk, AV.junk, AV.junk, AV.junk, AV.junk, AV.dv (DV.val (Value.int IntKind.i64 j10)), AV.dv (DV.val (Value.int IntKind.i64 j16)), AV.junk, AV.junk, AV.junk, AV.junk, AV.junk, AV.junk, AV.junk, AV.junk, AV.junk, AV.junk, AV.junk, AV.junk, AV.junk, AV.junk, AV.junk, AV.junk] [(1, [AV.dv (DV.val (Value.int IntKind.i64 j0)), AV.dv (DV.val (Value.string s1)), AV.dv (DV.val (Value.string s2)), AV.dv (DV.val (Value.string s3)), AV.sl b11 [Kd.b, Kd.i IntKind.i64, Kd.s] r12 (Right.tok 20068), AV.sl b13 [Kd.s, Kd.s, Kd.s, Kd.sl [Kd.b, Kd.i IntKind.i64, Kd.s]] r14 (Right.tok 20069)]), (2, [AV.dv (DV.val (Value.int IntKind.i64 0)), AV.dv (DV.val (Value.string (ByteArray.mk #[]))), AV.dv (DV.val (Value.string (ByteArray.mk #[]))), AV.dv (DV.val (Value.string (ByteArray.mk #[]))), AV.sl true [Kd.b, Kd.i IntKind.i64, Kd.s] [] (Right.tok 20132), AV.sl true [Kd.s, Kd.s, Kd.s, Kd.sl [Kd.b, Kd.i IntKind.i64, Kd.s]] [] (Right.tok 20133)])])
theorem z55_s4 (n : Nat) (j0 : Int) (s1 : ByteArray) (s2 : ByteArray) (s3 : ByteArray) (b4 : Bool) (r5 : Rows) (b6 : Bool) (r7 : Rows) (i0 : Nat) (j10 : Int) (b11 : Bool) (r12 : List (List DV)) (b13 : Bool) (r14 : List (List DV)) (j16 : Int) : z55_l4 n j0 s1 s2 s3 b4 r5 b6 r7 (i0 + 1) j10 b11 r12 b13 r14 j16 =
 bif decide (j16 < j10) then
  bif b13 || List.isEmpty r14 then
   if 0 ≤ j16 then
    if j16 < (↑0 : Int) then
     obind (z18_v n (Row.N [] 3) []) fun y17 =>
     if 0 ≤ j16 then
      if j16 < (↑0 : Int) then
       none
      else none
     else none
    else none
   else none
  else if 0 ≤ j16 then
   if j16 < (↑(List.length r14) : Int) then
    if 0 + Int.toNat j16 < List.length r14 then
     obind (z18_v n (Row.N (List.getD r14 (0 + Int.toNat j16) []) 3) (Row.R (List.getD r14 (0 + Int.toNat j16) []) 3)) fun y18 =>
     if 0 ≤ j16 then
      if j16 < (↑(List.length r14) : Int) then
       if 0 + Int.toNat j16 < List.length r14 then
        if 0 + List.length r14 ≤ List.length (List.set r14 (0 + Int.toNat j16) (spliceD (List.getD r14 (0 + Int.toNat j16) []) 3 [DV.sl y18.fst.fst [Kd.b, Kd.i IntKind.i64, Kd.s] y18.fst.snd])) then
         bif Kd.sameL [Kd.s, Kd.s, Kd.s, Kd.sl [Kd.b, Kd.i IntKind.i64, Kd.s]] [Kd.s, Kd.s, Kd.s, Kd.sl [Kd.b, Kd.i IntKind.i64, Kd.s]] && Nat.ble (0 + List.length r14) (0 + List.length r14) then
          z55_l4 n j0 s1 s2 s3 b4 r5 b6 r7 i0 j10 b11 r12 false (List.take (List.length r14) (List.drop 0 (List.set r14 (0 + Int.toNat j16) (spliceD (List.getD r14 (0 + Int.toNat j16) []) 3 [DV.sl y18.fst.fst [Kd.b, Kd.i IntKind.i64, Kd.s] y18.fst.snd])))) (IntKind.wrap IntKind.i64 (j16 + 1))
         else none
        else none
       else none
      else none
     else none
    else none
   else none
  else none
 else some ((j0, (s1, (s2, (s3, ((b11, r12), ((b13, r14), ())))))), ()) := by kernel_rfl
theorem z55_e (n : Nat) (j0 : Int) (s1 : ByteArray) (s2 : ByteArray) (s3 : ByteArray) (b4 : Bool) (r5 : Rows) (b6 : Bool) (r7 : Rows) : z55_v n j0 s1 s2 s3 b4 r5 b6 r7 =
 obind (z18_v n b4 r5) fun y8 =>
 obind (z20_v n b6 r7) fun y9 =>
 z55_l4 n j0 s1 s2 s3 b4 r5 b6 r7 n ((↑(List.length y9.fst.snd) : Int)) y8.fst.fst y8.fst.snd y9.fst.fst y9.fst.snd 0 := by kernel_rfl
theorem z55_c (n : Nat) (j0 : Int) (s1 : ByteArray) (s2 : ByteArray) (s3 : ByteArray) (b4 : Bool) (r5 : Rows) (b6 : Bool) (r7 : Rows) (y : (Int × ByteArray × ByteArray × ByteArray × (Bool × Rows) × (Bool × Rows) × Unit) × Unit) (h : z55_v n j0 s1 s2 s3 b4 r5 b6 r7 = some y) : Contract Try.prog 42 [AV.agg [AV.dv (DV.val (Value.int IntKind.i64 j0)), AV.dv (DV.val (Value.string s1)), AV.dv (DV.val (Value.string s2)), AV.dv (DV.val (Value.string s3)), AV.sl b4 [Kd.b, Kd.i IntKind.i64, Kd.s] r5 Right.no, AV.sl b6 [Kd.s, Kd.s, Kd.s, Kd.sl [Kd.b, Kd.i IntKind.i64, Kd.s]] r7 Right.no]] [] (OSh.enc (OSh.plain (.agg [.i IntKind.i64, .s, .s, .s, .sl [Kd.b, Kd.i IntKind.i64, Kd.s], .sl [Kd.s, Kd.s, Kd.s, Kd.sl [Kd.b, Kd.i IntKind.i64, Kd.s]]]) []) y) :=
 auto_okM tm_std (with_ok mixed (by kernel_rfl) (z55_σok n) n 0 [1000045, 1000059]) (with_pick mixed (by kernel_rfl) (z55_σok n) n 0 [1000045, 1000059]) mixed Try.func42 (by decide) (o := (OSh.plain (.agg [.i IntKind.i64, .s, .s, .s, .sl [Kd.b, Kd.i IntKind.i64, Kd.s], .sl [Kd.s, Kd.s, Kd.s, Kd.sl [Kd.b, Kd.i IntKind.i64, Kd.s]]]) [])) h
def z30_lv : Live := [(1000006, [1, 30], [])]
noncomputable def z30_σ (n : Nat) : Spec := (inst 36 [.pv [Kd.sl [Kd.i IntKind.i64, Kd.s, Kd.s, Kd.s, Kd.sl [Kd.b, Kd.i IntKind.i64, Kd.s], Kd.sl [Kd.s, Kd.s, Kd.s, Kd.sl [Kd.b, Kd.i IntKind.i64, Kd.s]]], Kd.b] 0] [] (OSh.plain (.b) []) (fun x e => z14_v n x.1) (inst 50 [.sl [Kd.i IntKind.i64, Kd.s, Kd.s, Kd.s, Kd.sl [Kd.b, Kd.i IntKind.i64, Kd.s], Kd.sl [Kd.s, Kd.s, Kd.s, Kd.sl [Kd.b, Kd.i IntKind.i64, Kd.s]]], .agg [.i IntKind.i64, .s, .s, .s, .sl [Kd.b, Kd.i IntKind.i64, Kd.s], .sl [Kd.s, Kd.s, Kd.s, Kd.sl [Kd.b, Kd.i IntKind.i64, Kd.s]]], .fn 51 []] [] (OSh.plain (.tup [.i IntKind.i64, .b]) []) (fun x e => z0_v n x.1.1 x.1.2 x.2.1.1 x.2.1.2.1 x.2.1.2.2.1 x.2.1.2.2.2.1 x.2.1.2.2.2.2.1.1 x.2.1.2.2.2.2.1.2 x.2.1.2.2.2.2.2.1.1 x.2.1.2.2.2.2.2.1.2) (inst 42 [.agg [.i IntKind.i64, .s, .s, .s, .sl [Kd.b, Kd.i IntKind.i64, Kd.s], .sl [Kd.s, Kd.s, Kd.s, Kd.sl [Kd.b, Kd.i IntKind.i64, Kd.s]]]] [] (OSh.plain (.agg [.i IntKind.i64, .s, .s, .s, .sl [Kd.b, Kd.i IntKind.i64, Kd.s], .sl [Kd.s, Kd.s, Kd.s, Kd.sl [Kd.b, Kd.i IntKind.i64, Kd.s]]]) []) (fun x e => z55_v n x.1.1 x.1.2.1 x.1.2.2.1 x.1.2.2.2.1 x.1.2.2.2.2.1.1 x.1.2.2.2.2.1.2 x.1.2.2.2.2.2.1.1 x.1.2.2.2.2.2.1.2) (bookH Spec.none))))
theorem z30_σok (n : Nat) : SpecOk Try.prog (z30_σ n) := (inst_ok (fun x e y h => z14_c n x.1 y h) (inst_ok (fun x e y h => z0_c n x.1.1 x.1.2 x.2.1.1 x.2.1.2.1 x.2.1.2.2.1 x.2.1.2.2.2.1 x.2.1.2.2.2.2.1.1 x.2.1.2.2.2.2.1.2 x.2.1.2.2.2.2.2.1.1 x.2.1.2.2.2.2.2.1.2 y h) (inst_ok (fun x e y h => z55_c n x.1.1 x.1.2.1 x.1.2.2.1 x.1.2.2.2.1 x.1.2.2.2.2.1.1 x.1.2.2.2.2.1.2 x.1.2.2.2.2.2.1.1 x.1.2.2.2.2.2.1.2 y h) (bookH_ok (SpecOk.none _)))))
noncomputable def z30_Φ (n : Nat) : Orc := with_ Try.prog (z30_σ n) [] n 0 [4000025,  4000030,  5000008, 1000045, 1000059]
noncomputable def z30_v (n : Nat) (j0 : Int) (s1 : ByteArray) (s2 : ByteArray) (s3 : ByteArray) (b4 : Bool) (r5 : Rows) (b6 : Bool) (r7 : Rows) (b8 : Bool) (r9 : Rows) (b10 : Bool) : Option (Bool × ((Bool × Rows) × Bool × Unit) × Unit) :=
 DM.denFn tm (z30_Φ n) z30_lv n Try.f25 false [AV.pl 1000 0, AV.agg [AV.dv (DV.val (Value.int IntKind.i64 j0)), AV.dv (DV.val (Value.string s1)), AV.dv (DV.val (Value.string s2)), AV.dv (DV.val (Value.string s3)), AV.sl b4 [Kd.b, Kd.i IntKind.i64, Kd.s] r5 Right.no, AV.sl b6 [Kd.s, Kd.s, Kd.s, Kd.sl [Kd.b, Kd.i IntKind.i64, Kd.s]] r7 Right.no]] [[AV.sl b8 [Kd.i IntKind.i64, Kd.s, Kd.s, Kd.s, Kd.sl [Kd.b, Kd.i IntKind.i64, Kd.s], Kd.sl [Kd.s, Kd.s, Kd.s, Kd.sl [Kd.b, Kd.i IntKind.i64, Kd.s]]] r9 Right.no, AV.dv (DV.val (Value.bool b10))]] (OSh.chk (OSh.plain (.b) [[.sl [Kd.i IntKind.i64, Kd.s, Kd.s, Kd.s, Kd.sl [Kd.b, Kd.i IntKind.i64, Kd.s], Kd.sl [Kd.s, Kd.s, Kd.s, Kd.sl [Kd.b, Kd.i IntKind.i64, Kd.s]]], .b]]))
theorem z30_e (n : Nat) (j0 : Int) (s1 : ByteArray) (s2 : ByteArray) (s3 : ByteArray) (b4 : Bool) (r5 : Rows) (b6 : Bool) (r7 : Rows) (b8 : Bool) (r9 : Rows) (b10 : Bool) : z30_v n j0 s1 s2 s3 b4 r5 b6 r7 b8 r9 b10 =
 obind (z14_v n ([DV.sl b8 [Kd.i IntKind.i64, Kd.s, Kd.s, Kd.s, Kd.sl [Kd.b, Kd.i IntKind.i64, Kd.s], Kd.sl [Kd.s, Kd.s, Kd.s, Kd.sl [Kd.b, Kd.i IntKind.i64, Kd.s]]] r9, DV.val (Value.bool b10)])) fun y11 =>
 bif y11.fst then
  some (false, (((b8, r9), (b10, ())), ()))
 else obind (z0_v n b8 r9 j0 s1 s2 s3 b4 r5 b6 r7) fun y12 =>
 bif !y12.fst.snd.fst then
  bif b8 then
   obind (z55_v n j0 s1 s2 s3 b4 r5 b6 r7) fun y13 =>
   if y12.fst.fst = 0 then
    some (!y12.fst.snd.fst, (((false, [[DV.val (Value.int IntKind.i64 y13.fst.fst), DV.val (Value.string y13.fst.snd.fst), DV.val (Value.string y13.fst.snd.snd.fst), DV.val (Value.string y13.fst.snd.snd.snd.fst), DV.sl y13.fst.snd.snd.snd.snd.fst.fst [Kd.b, Kd.i IntKind.i64, Kd.s] y13.fst.snd.snd.snd.snd.fst.snd, DV.sl y13.fst.snd.snd.snd.snd.snd.fst.fst [Kd.s, Kd.s, Kd.s, Kd.sl [Kd.b, Kd.i IntKind.i64, Kd.s]] y13.fst.snd.snd.snd.snd.snd.fst.snd]]), (b10, ())), ()))
   else none
  else bif Nat.beq 6 6 && Nat.ble (List.length r9) 1000000 then
   obind (z55_v n j0 s1 s2 s3 b4 r5 b6 r7) fun y14 =>
   if 0 ≤ y12.fst.fst then
    if y12.fst.fst ≤ (↑(List.length r9) : Int) then
     if List.length r9 = List.length r9 then
      if List.length r9 + List.length [[DV.val (Value.int IntKind.i64 y14.fst.fst), DV.val (Value.string y14.fst.snd.fst), DV.val (Value.string y14.fst.snd.snd.fst), DV.val (Value.string y14.fst.snd.snd.snd.fst), DV.sl y14.fst.snd.snd.snd.snd.fst.fst [Kd.b, Kd.i IntKind.i64, Kd.s] y14.fst.snd.snd.snd.snd.fst.snd, DV.sl y14.fst.snd.snd.snd.snd.snd.fst.fst [Kd.s, Kd.s, Kd.s, Kd.sl [Kd.b, Kd.i IntKind.i64, Kd.s]] y14.fst.snd.snd.snd.snd.snd.fst.snd]] ≤ 1000000 then
       if 0 + (List.length r9 + List.length [[DV.val (Value.int IntKind.i64 y14.fst.fst), DV.val (Value.string y14.fst.snd.fst), DV.val (Value.string y14.fst.snd.snd.fst), DV.val (Value.string y14.fst.snd.snd.snd.fst), DV.sl y14.fst.snd.snd.snd.snd.fst.fst [Kd.b, Kd.i IntKind.i64, Kd.s] y14.fst.snd.snd.snd.snd.fst.snd, DV.sl y14.fst.snd.snd.snd.snd.snd.fst.fst [Kd.s, Kd.s, Kd.s, Kd.sl [Kd.b, Kd.i IntKind.i64, Kd.s]] y14.fst.snd.snd.snd.snd.snd.fst.snd]]) ≤ List.length (List.take (Int.toNat y12.fst.fst) r9 ++ [[DV.val (Value.int IntKind.i64 y14.fst.fst), DV.val (Value.string y14.fst.snd.fst), DV.val (Value.string y14.fst.snd.snd.fst), DV.val (Value.string y14.fst.snd.snd.snd.fst), DV.sl y14.fst.snd.snd.snd.snd.fst.fst [Kd.b, Kd.i IntKind.i64, Kd.s] y14.fst.snd.snd.snd.snd.fst.snd, DV.sl y14.fst.snd.snd.snd.snd.snd.fst.fst [Kd.s, Kd.s, Kd.s, Kd.sl [Kd.b, Kd.i IntKind.i64, Kd.s]] y14.fst.snd.snd.snd.snd.snd.fst.snd]] ++ List.drop (Int.toNat y12.fst.fst) r9) then
        bif Kd.sameL [Kd.i IntKind.i64, Kd.s, Kd.s, Kd.s, Kd.sl [Kd.b, Kd.i IntKind.i64, Kd.s], Kd.sl [Kd.s, Kd.s, Kd.s, Kd.sl [Kd.b, Kd.i IntKind.i64, Kd.s]]] [Kd.i IntKind.i64, Kd.s, Kd.s, Kd.s, Kd.sl [Kd.b, Kd.i IntKind.i64, Kd.s], Kd.sl [Kd.s, Kd.s, Kd.s, Kd.sl [Kd.b, Kd.i IntKind.i64, Kd.s]]] && Nat.ble (0 + (List.length r9 + List.length [[DV.val (Value.int IntKind.i64 y14.fst.fst), DV.val (Value.string y14.fst.snd.fst), DV.val (Value.string y14.fst.snd.snd.fst), DV.val (Value.string y14.fst.snd.snd.snd.fst), DV.sl y14.fst.snd.snd.snd.snd.fst.fst [Kd.b, Kd.i IntKind.i64, Kd.s] y14.fst.snd.snd.snd.snd.fst.snd, DV.sl y14.fst.snd.snd.snd.snd.snd.fst.fst [Kd.s, Kd.s, Kd.s, Kd.sl [Kd.b, Kd.i IntKind.i64, Kd.s]] y14.fst.snd.snd.snd.snd.snd.fst.snd]])) (0 + (List.length r9 + List.length [[DV.val (Value.int IntKind.i64 y14.fst.fst), DV.val (Value.string y14.fst.snd.fst), DV.val (Value.string y14.fst.snd.snd.fst), DV.val (Value.string y14.fst.snd.snd.snd.fst), DV.sl y14.fst.snd.snd.snd.snd.fst.fst [Kd.b, Kd.i IntKind.i64, Kd.s] y14.fst.snd.snd.snd.snd.fst.snd, DV.sl y14.fst.snd.snd.snd.snd.snd.fst.fst [Kd.s, Kd.s, Kd.s, Kd.sl [Kd.b, Kd.i IntKind.i64, Kd.s]] y14.fst.snd.snd.snd.snd.snd.fst.snd]])) then
         some (!y12.fst.snd.fst, (((false, List.take (List.length r9 + List.length [[DV.val (Value.int IntKind.i64 y14.fst.fst), DV.val (Value.string y14.fst.snd.fst), DV.val (Value.string y14.fst.snd.snd.fst), DV.val (Value.string y14.fst.snd.snd.snd.fst), DV.sl y14.fst.snd.snd.snd.snd.fst.fst [Kd.b, Kd.i IntKind.i64, Kd.s] y14.fst.snd.snd.snd.snd.fst.snd, DV.sl y14.fst.snd.snd.snd.snd.snd.fst.fst [Kd.s, Kd.s, Kd.s, Kd.sl [Kd.b, Kd.i IntKind.i64, Kd.s]] y14.fst.snd.snd.snd.snd.snd.fst.snd]]) (List.drop 0 (List.take (Int.toNat y12.fst.fst) r9 ++ [[DV.val (Value.int IntKind.i64 y14.fst.fst), DV.val (Value.string y14.fst.snd.fst), DV.val (Value.string y14.fst.snd.snd.fst), DV.val (Value.string y14.fst.snd.snd.snd.fst), DV.sl y14.fst.snd.snd.snd.snd.fst.fst [Kd.b, Kd.i IntKind.i64, Kd.s] y14.fst.snd.snd.snd.snd.fst.snd, DV.sl y14.fst.snd.snd.snd.snd.snd.fst.fst [Kd.s, Kd.s, Kd.s, Kd.sl [Kd.b, Kd.i IntKind.i64, Kd.s]] y14.fst.snd.snd.snd.snd.snd.fst.snd]] ++ List.drop (Int.toNat y12.fst.fst) r9))), (b10, ())), ()))
        else none
       else none
      else none
     else none
    else none
   else none
  else none
 else some (!y12.fst.snd.fst, (((b8, r9), (b10, ())), ())) := by kernel_rfl
theorem z30_c (n : Nat) (j0 : Int) (s1 : ByteArray) (s2 : ByteArray) (s3 : ByteArray) (b4 : Bool) (r5 : Rows) (b6 : Bool) (r7 : Rows) (b8 : Bool) (r9 : Rows) (b10 : Bool) (y : Bool × ((Bool × Rows) × Bool × Unit) × Unit) (h : z30_v n j0 s1 s2 s3 b4 r5 b6 r7 b8 r9 b10 = some y) : Contract Try.prog 25 [AV.pl 1000 0, AV.agg [AV.dv (DV.val (Value.int IntKind.i64 j0)), AV.dv (DV.val (Value.string s1)), AV.dv (DV.val (Value.string s2)), AV.dv (DV.val (Value.string s3)), AV.sl b4 [Kd.b, Kd.i IntKind.i64, Kd.s] r5 Right.no, AV.sl b6 [Kd.s, Kd.s, Kd.s, Kd.sl [Kd.b, Kd.i IntKind.i64, Kd.s]] r7 Right.no]] [[AV.sl b8 [Kd.i IntKind.i64, Kd.s, Kd.s, Kd.s, Kd.sl [Kd.b, Kd.i IntKind.i64, Kd.s], Kd.sl [Kd.s, Kd.s, Kd.s, Kd.sl [Kd.b, Kd.i IntKind.i64, Kd.s]]] r9 Right.no, AV.dv (DV.val (Value.bool b10))]] (OSh.enc (OSh.plain (.b) [[.sl [Kd.i IntKind.i64, Kd.s, Kd.s, Kd.s, Kd.sl [Kd.b, Kd.i IntKind.i64, Kd.s], Kd.sl [Kd.s, Kd.s, Kd.s, Kd.sl [Kd.b, Kd.i IntKind.i64, Kd.s]]], .b]]) y) :=
 auto_okM tm_std (with_ok mixed (by kernel_rfl) (z30_σok n) n 0 [4000025,  4000030,  5000008, 1000045, 1000059]) (with_pick mixed (by kernel_rfl) (z30_σok n) n 0 [4000025,  4000030,  5000008, 1000045, 1000059]) mixed Try.func25 (by decide) (o := (OSh.plain (.b) [[.sl [Kd.i IntKind.i64, Kd.s, Kd.s, Kd.s, Kd.sl [Kd.b, Kd.i IntKind.i64, Kd.s], Kd.sl [Kd.s, Kd.s, Kd.s, Kd.sl [Kd.b, Kd.i IntKind.i64, Kd.s]]], .b]])) h
def z28_lv : Live := []
noncomputable def z28_σ (n : Nat) : Spec := (inst 36 [.pv [Kd.sl [Kd.i IntKind.i64, Kd.s, Kd.s, Kd.s, Kd.sl [Kd.b, Kd.i IntKind.i64, Kd.s], Kd.sl [Kd.s, Kd.s, Kd.s, Kd.sl [Kd.b, Kd.i IntKind.i64, Kd.s]]], Kd.b] 0] [] (OSh.plain (.b) []) (fun x e => z14_v n x.1) (bookH Spec.none))
theorem z28_σok (n : Nat) : SpecOk Try.prog (z28_σ n) := (inst_ok (fun x e y h => z14_c n x.1 y h) (bookH_ok (SpecOk.none _)))
noncomputable def z28_Φ (n : Nat) : Orc := with_ Try.prog (z28_σ n) [] n 0 [5000004, 1000045, 1000059]
noncomputable def z28_v (n : Nat) (b0 : Bool) (r1 : Rows) (b2 : Bool) : Option (Int × ((Bool × Rows) × Bool × Unit) × Unit) :=
 DM.denFn tm (z28_Φ n) z28_lv n Try.f22 false [AV.pl 1000 0] [[AV.sl b0 [Kd.i IntKind.i64, Kd.s, Kd.s, Kd.s, Kd.sl [Kd.b, Kd.i IntKind.i64, Kd.s], Kd.sl [Kd.s, Kd.s, Kd.s, Kd.sl [Kd.b, Kd.i IntKind.i64, Kd.s]]] r1 Right.no, AV.dv (DV.val (Value.bool b2))]] (OSh.chk (OSh.plain (.i IntKind.i64) [[.sl [Kd.i IntKind.i64, Kd.s, Kd.s, Kd.s, Kd.sl [Kd.b, Kd.i IntKind.i64, Kd.s], Kd.sl [Kd.s, Kd.s, Kd.s, Kd.sl [Kd.b, Kd.i IntKind.i64, Kd.s]]], .b]]))
theorem z28_e (n : Nat) (b0 : Bool) (r1 : Rows) (b2 : Bool) : z28_v n b0 r1 b2 =
 obind (z14_v n ([DV.sl b0 [Kd.i IntKind.i64, Kd.s, Kd.s, Kd.s, Kd.sl [Kd.b, Kd.i IntKind.i64, Kd.s], Kd.sl [Kd.s, Kd.s, Kd.s, Kd.sl [Kd.b, Kd.i IntKind.i64, Kd.s]]] r1, DV.val (Value.bool b2)])) fun y3 =>
 bif y3.fst then
  some (0, (((b0, r1), (b2, ())), ()))
 else some ((↑(List.length r1) : Int), (((b0, r1), (b2, ())), ())) := by kernel_rfl
theorem z28_c (n : Nat) (b0 : Bool) (r1 : Rows) (b2 : Bool) (y : Int × ((Bool × Rows) × Bool × Unit) × Unit) (h : z28_v n b0 r1 b2 = some y) : Contract Try.prog 22 [AV.pl 1000 0] [[AV.sl b0 [Kd.i IntKind.i64, Kd.s, Kd.s, Kd.s, Kd.sl [Kd.b, Kd.i IntKind.i64, Kd.s], Kd.sl [Kd.s, Kd.s, Kd.s, Kd.sl [Kd.b, Kd.i IntKind.i64, Kd.s]]] r1 Right.no, AV.dv (DV.val (Value.bool b2))]] (OSh.enc (OSh.plain (.i IntKind.i64) [[.sl [Kd.i IntKind.i64, Kd.s, Kd.s, Kd.s, Kd.sl [Kd.b, Kd.i IntKind.i64, Kd.s], Kd.sl [Kd.s, Kd.s, Kd.s, Kd.sl [Kd.b, Kd.i IntKind.i64, Kd.s]]], .b]]) y) :=
 auto_okM tm_std (with_ok mixed (by kernel_rfl) (z28_σok n) n 0 [5000004, 1000045, 1000059]) (with_pick mixed (by kernel_rfl) (z28_σok n) n 0 [5000004, 1000045, 1000059]) mixed Try.func22 (by decide) (o := (OSh.plain (.i IntKind.i64) [[.sl [Kd.i IntKind.i64, Kd.s, Kd.s, Kd.s, Kd.sl [Kd.b, Kd.i IntKind.i64, Kd.s], Kd.sl [Kd.s, Kd.s, Kd.s, Kd.sl [Kd.b, Kd.i IntKind.i64, Kd.s]]], .b]])) h
def z29_lv : Live := []
noncomputable def z29_σ (n : Nat) : Spec := (inst 40 [.agg [.s, .s, .s, .sl [Kd.b, Kd.i IntKind.i64, Kd.s]], .agg [.s, .s, .s, .sl [Kd.b, Kd.i IntKind.i64, Kd.s]]] [] (OSh.plain (.i IntKind.i64) []) (fun x e => z46_v n x.1.1 x.1.2.1 x.1.2.2.1 x.1.2.2.2.1.1 x.1.2.2.2.1.2 x.2.1.1 x.2.1.2.1 x.2.1.2.2.1 x.2.1.2.2.2.1.1 x.2.1.2.2.2.1.2) (bookH Spec.none))
theorem z29_σok (n : Nat) : SpecOk Try.prog (z29_σ n) := (inst_ok (fun x e y h => z46_c n x.1.1 x.1.2.1 x.1.2.2.1 x.1.2.2.2.1.1 x.1.2.2.2.1.2 x.2.1.1 x.2.1.2.1 x.2.1.2.2.1 x.2.1.2.2.2.1.1 x.2.1.2.2.2.1.2 y h) (bookH_ok (SpecOk.none _)))
noncomputable def z29_Φ (n : Nat) : Orc := with_ Try.prog (z29_σ n) [] n 0 [1000045, 1000059]
noncomputable def z29_v (n : Nat) (s0 : ByteArray) (s1 : ByteArray) (s2 : ByteArray) (b3 : Bool) (r4 : Rows) (s5 : ByteArray) (s6 : ByteArray) (s7 : ByteArray) (b8 : Bool) (r9 : Rows) : Option (Bool × Unit) :=
 DM.denFn tm (z29_Φ n) z29_lv n Try.f60 false [AV.agg [AV.dv (DV.val (Value.string s0)), AV.dv (DV.val (Value.string s1)), AV.dv (DV.val (Value.string s2)), AV.sl b3 [Kd.b, Kd.i IntKind.i64, Kd.s] r4 Right.no], AV.agg [AV.dv (DV.val (Value.string s5)), AV.dv (DV.val (Value.string s6)), AV.dv (DV.val (Value.string s7)), AV.sl b8 [Kd.b, Kd.i IntKind.i64, Kd.s] r9 Right.no]] [] (OSh.chk (OSh.plain (.b) []))
theorem z29_e (n : Nat) (s0 : ByteArray) (s1 : ByteArray) (s2 : ByteArray) (b3 : Bool) (r4 : Rows) (s5 : ByteArray) (s6 : ByteArray) (s7 : ByteArray) (b8 : Bool) (r9 : Rows) : z29_v n s0 s1 s2 b3 r4 s5 s6 s7 b8 r9 =
 obind (z46_v n s0 s1 s2 b3 r4 s5 s6 s7 b8 r9) fun y10 =>
 some (y10.fst == 0, ()) := by kernel_rfl
theorem z29_c (n : Nat) (s0 : ByteArray) (s1 : ByteArray) (s2 : ByteArray) (b3 : Bool) (r4 : Rows) (s5 : ByteArray) (s6 : ByteArray) (s7 : ByteArray) (b8 : Bool) (r9 : Rows) (y : Bool × Unit) (h : z29_v n s0 s1 s2 b3 r4 s5 s6 s7 b8 r9 = some y) : Contract Try.prog 60 [AV.agg [AV.dv (DV.val (Value.string s0)), AV.dv (DV.val (Value.string s1)), AV.dv (DV.val (Value.string s2)), AV.sl b3 [Kd.b, Kd.i IntKind.i64, Kd.s] r4 Right.no], AV.agg [AV.dv (DV.val (Value.string s5)), AV.dv (DV.val (Value.string s6)), AV.dv (DV.val (Value.string s7)), AV.sl b8 [Kd.b, Kd.i IntKind.i64, Kd.s] r9 Right.no]] [] (OSh.enc (OSh.plain (.b) []) y) :=
 auto_okM tm_std (with_ok mixed (by kernel_rfl) (z29_σok n) n 0 [1000045, 1000059]) (with_pick mixed (by kernel_rfl) (z29_σok n) n 0 [1000045, 1000059]) mixed Try.func60 (by decide) (o := (OSh.plain (.b) [])) h
def z3_lv : Live := [(4, [0, 1, 5], [1000, 1001, 1002, 1003]), (9, [0, 1, 5, 6, 7], [1000, 1001, 1002, 1003])]
noncomputable def z3_σ (n : Nat) : Spec := (inst 60 [.agg [.s, .s, .s, .sl [Kd.b, Kd.i IntKind.i64, Kd.s]], .agg [.s, .s, .s, .sl [Kd.b, Kd.i IntKind.i64, Kd.s]]] [] (OSh.plain (.b) []) (fun x e => z29_v n x.1.1 x.1.2.1 x.1.2.2.1 x.1.2.2.2.1.1 x.1.2.2.2.1.2 x.2.1.1 x.2.1.2.1 x.2.1.2.2.1 x.2.1.2.2.2.1.1 x.2.1.2.2.2.1.2) (bookH Spec.none))
theorem z3_σok (n : Nat) : SpecOk Try.prog (z3_σ n) := (inst_ok (fun x e y h => z29_c n x.1.1 x.1.2.1 x.1.2.2.1 x.1.2.2.2.1.1 x.1.2.2.2.1.2 x.2.1.1 x.2.1.2.1 x.2.1.2.2.1 x.2.1.2.2.2.1.1 x.2.1.2.2.2.1.2 y h) (bookH_ok (SpecOk.none _)))
noncomputable def z3_Φ (n : Nat) : Orc := with_ Try.prog (z3_σ n) [] n 0 [1000045, 1000059]
noncomputable def z3_v (n : Nat) (b0 : Bool) (r1 : Rows) : Option ((Bool × Rows) × Unit) :=
 DM.denFn tm (z3_Φ n) z3_lv n Try.f59 true [AV.sl b0 [Kd.s, Kd.s, Kd.s, Kd.sl [Kd.b, Kd.i IntKind.i64, Kd.s]] r1 (Right.tok 500000), AV.fn 60 []] [] (OSh.chk (OSh.plain (.slt [Kd.s, Kd.s, Kd.s, Kd.sl [Kd.b, Kd.i IntKind.i64, Kd.s]] 0) []))
noncomputable def z3_l4 (n : Nat) (b0 : Bool) (r1 : Rows) (i0 : Nat) (j3 : Int) : Option ((Bool × Rows) × Unit) :=
 DM.loopFn tm (z3_Φ n) z3_lv n Try.f59 true [] (OSh.chk (OSh.plain (.slt [Kd.s, Kd.s, Kd.s, Kd.sl [Kd.b, Kd.i IntKind.i64, Kd.s]] 0) [])) 4 [] i0 (St.mk [AV.sl b0 [Kd.s, Kd.s, Kd.s, Kd.sl [Kd.b, Kd.i IntKind.i64, Kd.s]] r1 (Right.tok 0), AV.fn 60 [], AV.junk, AV.junk, AV.junk, AV.dv (DV.val (Value.int IntKind.i64 j3)), AV.junk, AV.junk, AV.junk, AV.junk, AV.junk, AV.junk, AV.junk, AV.junk, AV.junk, AV.junk, AV.junk, AV.junk, AV.junk, AV.junk, AV.junk, AV.junk, AV.junk, AV.junk, AV.junk, AV.junk, AV.junk, AV.junk, AV.junk, AV.junk, AV.junk, AV.junk, AV.junk, AV.junk, AV.junk, AV.junk, AV.junk, AV.junk, AV.junk, AV.junk, AV.junk, AV.junk, AV.junk, AV.junk, AV.junk, AV.junk, AV.junk, AV.junk, AV.junk, AV.junk, AV.junk, AV.junk, AV.junk, AV.junk, AV.junk, AV.junk, AV.junk, AV.junk, AV.junk, AV.junk, AV.junk, AV.junk, AV.junk, AV.junk, AV.junk, AV.junk] [])
noncomputable def z3_l9 (n : Nat) (b0 : Bool) (r1 : Rows) (i0 i1 : Nat) (j5 : Int) (r6 : List (List DV)) (j8 : Int) : Option ((Bool × Rows) × Unit) :=
 DM.loopFn tm (z3_Φ n) z3_lv n Try.f59 true [] (OSh.chk (OSh.plain (.slt [Kd.s, Kd.s, Kd.s, Kd.sl [Kd.b, Kd.i IntKind.i64, Kd.s]] 0) [])) 9 [i0] i1 (St.mk [AV.sl b0 [Kd.s, Kd.s, Kd.s, Kd.sl [Kd.b, Kd.i IntKind.i64, Kd.s]] r1 (Right.tok 0), AV.fn 60 [], AV.junk, AV.junk, AV.junk, AV.dv (DV.val (Value.int IntKind.i64 j5)), AV.sl b0 [Kd.s, Kd.s, Kd.s, Kd.sl [Kd.b, Kd.i IntKind.i64, Kd.s]] r6 Right.no, AV.dv (DV.val (Value.int IntKind.i64 j8)), AV.junk, AV.junk, AV.junk, AV.junk, AV.junk, AV.junk, AV.junk, AV.junk, AV.junk, AV.junk, AV.junk, AV.junk, AV.junk, AV.junk, AV.junk, AV.junk, AV.junk, AV.junk, AV.junk, AV.junk, AV.junk, AV.junk, AV.junk, AV.junk, AV.junk, AV.junk, AV.junk, AV.junk, AV.junk, AV.junk, AV.junk, AV.junk, AV.junk, AV.junk, AV.junk, AV.junk, AV.junk, AV.junk, AV.junk, AV.junk, AV.junk, AV.junk, AV.junk, AV.junk, AV.junk, AV.junk, AV.junk, AV.junk, AV.junk, AV.junk, AV.junk, AV.junk, AV.junk, AV.junk, AV.junk, AV.junk, AV.junk, AV.junk] [])
theorem z3_s4 (n : Nat) (b0 : Bool) (r1 : Rows) (i0 : Nat) (j3 : Int) : z3_l4 n b0 r1 (i0 + 1) j3 =
 bif decide (j3 < (↑(List.length r1) : Int)) then
  if 0 ≤ j3 then
   if j3 < (↑(List.length r1) : Int) then
    if 0 ≤ IntKind.wrap IntKind.i64 (j3 - 1) then
     if IntKind.wrap IntKind.i64 (j3 - 1) < (↑(List.length r1) : Int) then
      obind (z29_v n (Row.S (List.getD r1 (Int.toNat j3) []) 0) (Row.S (List.getD r1 (Int.toNat j3) []) 1) (Row.S (List.getD r1 (Int.toNat j3) []) 2) (Row.N (List.getD r1 (Int.toNat j3) []) 3) (Row.R (List.getD r1 (Int.toNat j3) []) 3) (Row.S (List.getD r1 (Int.toNat (IntKind.wrap IntKind.i64 (j3 - 1))) []) 0) (Row.S (List.getD r1 (Int.toNat (IntKind.wrap IntKind.i64 (j3 - 1))) []) 1) (Row.S (List.getD r1 (Int.toNat (IntKind.wrap IntKind.i64 (j3 - 1))) []) 2) (Row.N (List.getD r1 (Int.toNat (IntKind.wrap IntKind.i64 (j3 - 1))) []) 3) (Row.R (List.getD r1 (Int.toNat (IntKind.wrap IntKind.i64 (j3 - 1))) []) 3)) fun y4 =>
      bif y4.fst then
       if 0 ≤ j3 then
        if j3 ≤ (↑(List.length r1) : Int) then
         if (↑(List.length r1) : Int) ≤ (↑(List.length r1) : Int) then
          z3_l9 n b0 r1 i0 n j3 (List.drop (Int.toNat j3) (List.take (Int.toNat (↑(List.length r1) : Int)) r1)) 1
         else none
        else none
       else none
      else z3_l4 n b0 r1 i0 (IntKind.wrap IntKind.i64 (j3 + 1))
     else none
    else none
   else none
  else none
 else some ((b0, r1), ()) := by kernel_rfl
theorem z3_s9 (n : Nat) (b0 : Bool) (r1 : Rows) (i0 i1 : Nat) (j5 : Int) (r6 : List (List DV)) (j8 : Int) : z3_l9 n b0 r1 i0 (i1 + 1) j5 r6 j8 =
 bif decide (j8 < (↑(List.length r6) : Int)) then
  if 0 ≤ j8 then
   if j8 < (↑(List.length r6) : Int) then
    if 0 ≤ IntKind.wrap IntKind.i64 (j8 - 1) then
     if IntKind.wrap IntKind.i64 (j8 - 1) < (↑(List.length r6) : Int) then
      obind (z29_v n (Row.S (List.getD r6 (Int.toNat j8) []) 0) (Row.S (List.getD r6 (Int.toNat j8) []) 1) (Row.S (List.getD r6 (Int.toNat j8) []) 2) (Row.N (List.getD r6 (Int.toNat j8) []) 3) (Row.R (List.getD r6 (Int.toNat j8) []) 3) (Row.S (List.getD r6 (Int.toNat (IntKind.wrap IntKind.i64 (j8 - 1))) []) 0) (Row.S (List.getD r6 (Int.toNat (IntKind.wrap IntKind.i64 (j8 - 1))) []) 1) (Row.S (List.getD r6 (Int.toNat (IntKind.wrap IntKind.i64 (j8 - 1))) []) 2) (Row.N (List.getD r6 (Int.toNat (IntKind.wrap IntKind.i64 (j8 - 1))) []) 3) (Row.R (List.getD r6 (Int.toNat (IntKind.wrap IntKind.i64 (j8 - 1))) []) 3)) fun y9 =>
      bif !y9.fst then
       if 0 ≤ j8 then
        if j8 < (↑(List.length r6) : Int) then
         if 0 ≤ j5 then
          if j5 < (↑(List.length r1) : Int) then
           none
          else none
         else none
        else none
       else none
      else z3_l9 n b0 r1 i0 i1 j5 r6 (IntKind.wrap IntKind.i64 (j8 + 1))
     else none
    else none
   else none
  else none
 else if 0 ≤ j5 then
  if j5 ≤ (↑(List.length r1) : Int) then
   if (↑(List.length r1) : Int) ≤ (↑(List.length r1) : Int) then
    none
   else none
  else none
 else none := by kernel_rfl
theorem z3_e (n : Nat) (b0 : Bool) (r1 : Rows) : z3_v n b0 r1 =
 bif decide ((↑(List.length r1) : Int) < 2) then
  some ((b0, r1), ())
 else z3_l4 n b0 r1 n 1 := by kernel_rfl
theorem z3_c (n : Nat) (b0 : Bool) (r1 : Rows) (y : (Bool × Rows) × Unit) (h : z3_v n b0 r1 = some y) : Contract Try.prog 59 [AV.sl b0 [Kd.s, Kd.s, Kd.s, Kd.sl [Kd.b, Kd.i IntKind.i64, Kd.s]] r1 (Right.tok 500000), AV.fn 60 []] [] (OSh.enc (OSh.plain (.slt [Kd.s, Kd.s, Kd.s, Kd.sl [Kd.b, Kd.i IntKind.i64, Kd.s]] 0) []) y) :=
 auto_okM tm_std (with_ok mixed (by kernel_rfl) (z3_σok n) n 0 [1000045, 1000059]) (with_pick mixed (by kernel_rfl) (z3_σok n) n 0 [1000045, 1000059]) mixed Try.func59 (by decide) (o := (OSh.plain (.slt [Kd.s, Kd.s, Kd.s, Kd.sl [Kd.b, Kd.i IntKind.i64, Kd.s]] 0) [])) h
def z1_lv : Live := [(4, [0, 1, 5], [1000, 1001, 1002, 1003]), (9, [0, 1, 5, 6, 7], [1000, 1001, 1002, 1003])]
noncomputable def z1_σ (n : Nat) : Spec := (inst 60 [.agg [.s, .s, .s, .sl [Kd.b, Kd.i IntKind.i64, Kd.s]], .agg [.s, .s, .s, .sl [Kd.b, Kd.i IntKind.i64, Kd.s]]] [] (OSh.plain (.b) []) (fun x e => z29_v n x.1.1 x.1.2.1 x.1.2.2.1 x.1.2.2.2.1.1 x.1.2.2.2.1.2 x.2.1.1 x.2.1.2.1 x.2.1.2.2.1 x.2.1.2.2.2.1.1 x.2.1.2.2.2.1.2) (bookH Spec.none))
theorem z1_σok (n : Nat) : SpecOk Try.prog (z1_σ n) := (inst_ok (fun x e y h => z29_c n x.1.1 x.1.2.1 x.1.2.2.1 x.1.2.2.2.1.1 x.1.2.2.2.1.2 x.2.1.1 x.2.1.2.1 x.2.1.2.2.1 x.2.1.2.2.2.1.1 x.2.1.2.2.2.1.2 y h) (bookH_ok (SpecOk.none _)))
noncomputable def z1_Φ (n : Nat) : Orc := with_ Try.prog (z1_σ n) [] n 0 [1000045, 1000059]
noncomputable def z1_v (n : Nat) (m0 : Nat) (m1 : Nat) (r2 : Rows) : Option ((Nat × Nat) × (Rows × Unit) × Unit) :=
 DM.denFn tm (z1_Φ n) z1_lv n Try.f59 false [AV.ms 1000 [Kd.s, Kd.s, Kd.s, Kd.sl [Kd.b, Kd.i IntKind.i64, Kd.s]] 0 m0 m1, AV.fn 60 []] [[AV.arr [Kd.s, Kd.s, Kd.s, Kd.sl [Kd.b, Kd.i IntKind.i64, Kd.s]] r2]] (OSh.chk (OSh.plain (.ms0 1000 [Kd.s, Kd.s, Kd.s, Kd.sl [Kd.b, Kd.i IntKind.i64, Kd.s]]) [[.arr [Kd.s, Kd.s, Kd.s, Kd.sl [Kd.b, Kd.i IntKind.i64, Kd.s]]]]))
noncomputable def z1_l4 (n : Nat) (m0 : Nat) (m1 : Nat) (r2 : Rows) (i0 : Nat) (j4 : Int) : Option ((Nat × Nat) × (Rows × Unit) × Unit) :=
 DM.loopFn tm (z1_Φ n) z1_lv n Try.f59 false [[AV.arr [Kd.s, Kd.s, Kd.s, Kd.sl [Kd.b, Kd.i IntKind.i64, Kd.s]] r2]] (OSh.chk (OSh.plain (.ms0 1000 [Kd.s, Kd.s, Kd.s, Kd.sl [Kd.b, Kd.i IntKind.i64, Kd.s]]) [[.arr [Kd.s, Kd.s, Kd.s, Kd.sl [Kd.b, Kd.i IntKind.i64, Kd.s]]]])) 4 [] i0 (St.mk [AV.ms 1000 [Kd.s, Kd.s, Kd.s, Kd.sl [Kd.b, Kd.i IntKind.i64, Kd.s]] 0 m0 m1, AV.fn 60 [], AV.junk, AV.junk, AV.junk, AV.dv (DV.val (Value.int IntKind.i64 j4)), AV.junk, AV.junk, AV.junk, AV.junk, AV.junk, AV.junk, AV.junk, AV.junk, AV.junk, AV.junk, AV.junk, AV.junk, AV.junk, AV.junk, AV.junk, AV.junk, AV.junk, AV.junk, AV.junk, AV.junk, AV.junk, AV.junk, AV.junk, AV.junk, AV.junk, AV.junk, AV.junk, AV.junk, AV.junk, AV.junk, AV.junk, AV.junk, AV.junk, AV.junk, AV.junk, AV.junk, AV.junk, AV.junk, AV.junk, AV.junk, AV.junk, AV.junk, AV.junk, AV.junk, AV.junk, AV.junk, AV.junk, AV.junk, AV.junk, AV.junk, AV.junk, AV.junk, AV.junk, AV.junk, AV.junk, AV.junk, AV.junk, AV.junk, AV.junk, AV.junk] [(1000, [AV.arr [Kd.s, Kd.s, Kd.s, Kd.sl [Kd.b, Kd.i IntKind.i64, Kd.s]] r2])])
noncomputable def z1_l9 (n : Nat) (m0 : Nat) (m1 : Nat) (r2 : Rows) (i0 i1 : Nat) (j6 : Int) (m7 : Nat) (m8 : Nat) (m9 : Nat) (j11 : Int) (r12 : List (List DV)) : Option ((Nat × Nat) × (Rows × Unit) × Unit) :=
 DM.loopFn tm (z1_Φ n) z1_lv n Try.f59 false [[AV.arr [Kd.s, Kd.s, Kd.s, Kd.sl [Kd.b, Kd.i IntKind.i64, Kd.s]] r2]] (OSh.chk (OSh.plain (.ms0 1000 [Kd.s, Kd.s, Kd.s, Kd.sl [Kd.b, Kd.i IntKind.i64, Kd.s]]) [[.arr [Kd.s, Kd.s, Kd.s, Kd.sl [Kd.b, Kd.i IntKind.i64, Kd.s]]]])) 9 [i0] i1 (St.mk [AV.ms 1000 [Kd.s, Kd.s, Kd.s, Kd.sl [Kd.b, Kd.i IntKind.i64, Kd.s]] 0 m0 m1, AV.fn 60 [], AV.junk, AV.junk, AV.junk, AV.dv (DV.val (Value.int IntKind.i64 j6)), AV.ms 1000 [Kd.s, Kd.s, Kd.s, Kd.sl [Kd.b, Kd.i IntKind.i64, Kd.s]] m7 m8 m9, AV.dv (DV.val (Value.int IntKind.i64 j11)), AV.junk, AV.junk, AV.junk, AV.junk, AV.junk, AV.junk, AV.junk, AV.junk, AV.junk, AV.junk, AV.junk, AV.junk, AV.junk, AV.junk, AV.junk, AV.junk, AV.junk, AV.junk, AV.junk, AV.junk, AV.junk, AV.junk, AV.junk, AV.junk, AV.junk, AV.junk, AV.junk, AV.junk, AV.junk, AV.junk, AV.junk, AV.junk, AV.junk, AV.junk, AV.junk, AV.junk, AV.junk, AV.junk, AV.junk, AV.junk, AV.junk, AV.junk, AV.junk, AV.junk, AV.junk, AV.junk, AV.junk, AV.junk, AV.junk, AV.junk, AV.junk, AV.junk, AV.junk, AV.junk, AV.junk, AV.junk, AV.junk, AV.junk] [(1000, [AV.arr [Kd.s, Kd.s, Kd.s, Kd.sl [Kd.b, Kd.i IntKind.i64, Kd.s]] r12])])
theorem z1_s4 (n : Nat) (m0 : Nat) (m1 : Nat) (r2 : Rows) (i0 : Nat) (j4 : Int) : z1_l4 n m0 m1 r2 (i0 + 1) j4 =
 bif decide (j4 < (↑m0 : Int)) then
  if 0 ≤ j4 then
   if j4 < (↑m0 : Int) then
    if 0 + Int.toNat j4 < List.length r2 then
     if 0 ≤ IntKind.wrap IntKind.i64 (j4 - 1) then
      if IntKind.wrap IntKind.i64 (j4 - 1) < (↑m0 : Int) then
       if 0 + Int.toNat (IntKind.wrap IntKind.i64 (j4 - 1)) < List.length r2 then
        obind (z29_v n (Row.S (List.getD r2 (0 + Int.toNat j4) []) 0) (Row.S (List.getD r2 (0 + Int.toNat j4) []) 1) (Row.S (List.getD r2 (0 + Int.toNat j4) []) 2) (Row.N (List.getD r2 (0 + Int.toNat j4) []) 3) (Row.R (List.getD r2 (0 + Int.toNat j4) []) 3) (Row.S (List.getD r2 (0 + Int.toNat (IntKind.wrap IntKind.i64 (j4 - 1))) []) 0) (Row.S (List.getD r2 (0 + Int.toNat (IntKind.wrap IntKind.i64 (j4 - 1))) []) 1) (Row.S (List.getD r2 (0 + Int.toNat (IntKind.wrap IntKind.i64 (j4 - 1))) []) 2) (Row.N (List.getD r2 (0 + Int.toNat (IntKind.wrap IntKind.i64 (j4 - 1))) []) 3) (Row.R (List.getD r2 (0 + Int.toNat (IntKind.wrap IntKind.i64 (j4 - 1))) []) 3)) fun y5 =>
        bif y5.fst then
         if 0 ≤ j4 then
          if j4 ≤ (↑m0 : Int) then
           if (↑m0 : Int) ≤ (↑m1 : Int) then
            z1_l9 n m0 m1 r2 i0 n j4 (0 + Int.toNat j4) (Int.toNat (↑m0 : Int) - Int.toNat j4) (m1 - Int.toNat j4) 1 r2
           else none
          else none
         else none
        else z1_l4 n m0 m1 r2 i0 (IntKind.wrap IntKind.i64 (j4 + 1))
       else none
      else none
     else none
    else none
   else none
  else none
 else some ((m0, m1), ((r2, ()), ())) := by kernel_rfl
theorem z1_s9 (n : Nat) (m0 : Nat) (m1 : Nat) (r2 : Rows) (i0 i1 : Nat) (j6 : Int) (m7 : Nat) (m8 : Nat) (m9 : Nat) (j11 : Int) (r12 : List (List DV)) : z1_l9 n m0 m1 r2 i0 (i1 + 1) j6 m7 m8 m9 j11 r12 =
 bif decide (j11 < (↑m8 : Int)) then
  if 0 ≤ j11 then
   if j11 < (↑m8 : Int) then
    if m7 + Int.toNat j11 < List.length r12 then
     if 0 ≤ IntKind.wrap IntKind.i64 (j11 - 1) then
      if IntKind.wrap IntKind.i64 (j11 - 1) < (↑m8 : Int) then
       if m7 + Int.toNat (IntKind.wrap IntKind.i64 (j11 - 1)) < List.length r12 then
        obind (z29_v n (Row.S (List.getD r12 (m7 + Int.toNat j11) []) 0) (Row.S (List.getD r12 (m7 + Int.toNat j11) []) 1) (Row.S (List.getD r12 (m7 + Int.toNat j11) []) 2) (Row.N (List.getD r12 (m7 + Int.toNat j11) []) 3) (Row.R (List.getD r12 (m7 + Int.toNat j11) []) 3) (Row.S (List.getD r12 (m7 + Int.toNat (IntKind.wrap IntKind.i64 (j11 - 1))) []) 0) (Row.S (List.getD r12 (m7 + Int.toNat (IntKind.wrap IntKind.i64 (j11 - 1))) []) 1) (Row.S (List.getD r12 (m7 + Int.toNat (IntKind.wrap IntKind.i64 (j11 - 1))) []) 2) (Row.N (List.getD r12 (m7 + Int.toNat (IntKind.wrap IntKind.i64 (j11 - 1))) []) 3) (Row.R (List.getD r12 (m7 + Int.toNat (IntKind.wrap IntKind.i64 (j11 - 1))) []) 3)) fun y13 =>
        bif !y13.fst then
         if 0 ≤ j11 then
          if j11 < (↑m8 : Int) then
           if m7 + Int.toNat j11 < List.length r12 then
            if 0 ≤ j6 then
             if j6 < (↑m0 : Int) then
              if 0 + Int.toNat j6 < List.length r12 then
               z1_l9 n m0 m1 r2 i0 i1 (IntKind.wrap IntKind.i64 (j6 + 1)) m7 m8 m9 (IntKind.wrap IntKind.i64 (j11 + 1)) (List.set r12 (0 + Int.toNat j6) (DV.val (Value.string (Row.S (List.getD r12 (m7 + Int.toNat j11) []) 0)) :: DV.val (Value.string (Row.S (List.getD r12 (m7 + Int.toNat j11) []) 1)) :: DV.val (Value.string (Row.S (List.getD r12 (m7 + Int.toNat j11) []) 2)) :: DV.sl (Row.N (List.getD r12 (m7 + Int.toNat j11) []) 3) [Kd.b, Kd.i IntKind.i64, Kd.s] (Row.R (List.getD r12 (m7 + Int.toNat j11) []) 3) :: List.drop (0 + List.length [DV.val (Value.string (Row.S (List.getD r12 (m7 + Int.toNat j11) []) 0)), DV.val (Value.string (Row.S (List.getD r12 (m7 + Int.toNat j11) []) 1)), DV.val (Value.string (Row.S (List.getD r12 (m7 + Int.toNat j11) []) 2)), DV.sl (Row.N (List.getD r12 (m7 + Int.toNat j11) []) 3) [Kd.b, Kd.i IntKind.i64, Kd.s] (Row.R (List.getD r12 (m7 + Int.toNat j11) []) 3)]) (List.getD r12 (0 + Int.toNat j6) [])))
              else none
             else none
            else none
           else none
          else none
         else none
        else z1_l9 n m0 m1 r2 i0 i1 j6 m7 m8 m9 (IntKind.wrap IntKind.i64 (j11 + 1)) r12
       else none
      else none
     else none
    else none
   else none
  else none
 else if 0 ≤ j6 then
  if j6 ≤ (↑m0 : Int) then
   if (↑m0 : Int) ≤ (↑m1 : Int) then
    if 0 + Int.toNat j6 + (Int.toNat (↑m0 : Int) - Int.toNat j6) ≤ List.length r12 then
     if 0 ≤ j6 then
      if j6 ≤ (↑m1 : Int) then
       some ((Int.toNat j6 - 0, m1 - 0), ((List.take (0 + Int.toNat j6) r12 ++ List.replicate (Int.toNat (↑m0 : Int) - Int.toNat j6) [DV.val (Value.string (ByteArray.mk #[])), DV.val (Value.string (ByteArray.mk #[])), DV.val (Value.string (ByteArray.mk #[])), DV.sl true [Kd.b, Kd.i IntKind.i64, Kd.s] []] ++ List.drop (0 + Int.toNat j6 + (Int.toNat (↑m0 : Int) - Int.toNat j6)) r12, ()), ()))
      else none
     else none
    else none
   else none
  else none
 else none := by kernel_rfl
theorem z1_e (n : Nat) (m0 : Nat) (m1 : Nat) (r2 : Rows) : z1_v n m0 m1 r2 =
 bif decide ((↑m0 : Int) < 2) then
  some ((m0, m1), ((r2, ()), ()))
 else z1_l4 n m0 m1 r2 n 1 := by kernel_rfl
theorem z1_c (n : Nat) (m0 : Nat) (m1 : Nat) (r2 : Rows) (y : (Nat × Nat) × (Rows × Unit) × Unit) (h : z1_v n m0 m1 r2 = some y) : Contract Try.prog 59 [AV.ms 1000 [Kd.s, Kd.s, Kd.s, Kd.sl [Kd.b, Kd.i IntKind.i64, Kd.s]] 0 m0 m1, AV.fn 60 []] [[AV.arr [Kd.s, Kd.s, Kd.s, Kd.sl [Kd.b, Kd.i IntKind.i64, Kd.s]] r2]] (OSh.enc (OSh.plain (.ms0 1000 [Kd.s, Kd.s, Kd.s, Kd.sl [Kd.b, Kd.i IntKind.i64, Kd.s]]) [[.arr [Kd.s, Kd.s, Kd.s, Kd.sl [Kd.b, Kd.i IntKind.i64, Kd.s]]]]) y) :=
 auto_okM tm_std (with_ok mixed (by kernel_rfl) (z1_σok n) n 0 [1000045, 1000059]) (with_pick mixed (by kernel_rfl) (z1_σok n) n 0 [1000045, 1000059]) mixed Try.func59 (by decide) (o := (OSh.plain (.ms0 1000 [Kd.s, Kd.s, Kd.s, Kd.sl [Kd.b, Kd.i IntKind.i64, Kd.s]]) [[.arr [Kd.s, Kd.s, Kd.s, Kd.sl [Kd.b, Kd.i IntKind.i64, Kd.s]]]])) h
end Go.Den
