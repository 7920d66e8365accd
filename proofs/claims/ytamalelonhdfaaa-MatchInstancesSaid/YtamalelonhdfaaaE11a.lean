import Derived.Test.YtamalelonhdfaaaMemo11
set_option linter.unusedVariables false
set_option linter.unusedSimpArgs false
set_option linter.unusedSectionVars false
namespace Go.Den
open Go.Proofs
set_option maxRecDepth 100000
/-! ref05_Weight: function 32 -/
def ref05_Weight_lv : Live := [(3, [0, 1, 5, 6], [1000, 1001, 1002, 1003]), (7, [0, 1, 5, 6, 7], [1000, 1001, 1002, 1003])]
noncomputable def ref05_Weight_σ (n : Nat) : Spec := Spec.none
theorem ref05_Weight_σok (n : Nat) : SpecOk Try.prog (ref05_Weight_σ n) := (SpecOk.none _)
noncomputable def ref05_Weight_Φ (n : Nat) : Orc := with_ Try.prog (ref05_Weight_σ n) [] n 0 [1000053]
noncomputable def ref05_Weight_v (n : Nat) (b0 : Bool) (r1 : Rows) (j2 : Int) : Option (Int × Unit) :=
  DM.denFn tm (ref05_Weight_Φ n) ref05_Weight_lv n Try.f32 false [AV.sl b0 [Kd.s, Kd.b, Kd.i IntKind.i64, Kd.s, Kd.s, Kd.sl [Kd.s, Kd.b, Kd.i IntKind.i64, Kd.s], Kd.s, Kd.b, Kd.i IntKind.i64, Kd.s, Kd.sl [Kd.s, Kd.b, Kd.i IntKind.i64, Kd.s, Kd.s, Kd.sl [Kd.s, Kd.b, Kd.i IntKind.i64, Kd.s], Kd.s, Kd.b, Kd.i IntKind.i64, Kd.s]] r1 Right.no, AV.dv (DV.val (Value.int IntKind.i64 j2))] [] (OSh.chk (OSh.plain (.i IntKind.i64) []))
noncomputable def ref05_Weight_l3 (n : Nat) (b0 : Bool) (r1 : Rows) (j2 : Int) (i0 : Nat) (j5 : Int) (j6 : Int) : Option (Int × Unit) :=
  DM.loopFn tm (ref05_Weight_Φ n) ref05_Weight_lv n Try.f32 false [] (OSh.chk (OSh.plain (.i IntKind.i64) [])) 3 [] i0 (St.mk [AV.sl b0 [Kd.s, Kd.b, Kd.i IntKind.i64, Kd.s, Kd.s, Kd.sl [Kd.s, Kd.b, Kd.i IntKind.i64, Kd.s], Kd.s, Kd.b, Kd.i IntKind.i64, Kd.s, Kd.sl [Kd.s, Kd.b, Kd.i IntKind.i64, Kd.s, Kd.s, Kd.sl [Kd.s, Kd.b, Kd.i IntKind.i64, Kd.s], Kd.s, Kd.b, Kd.i IntKind.i64, Kd.s]] r1 Right.no, AV.dv (DV.val (Value.int IntKind.i64 j2)), AV.junk, AV.junk, AV.junk, AV.dv (DV.val (Value.int IntKind.i64 j5)), AV.dv (DV.val (Value.int IntKind.i64 j6)), AV.junk, AV.junk, AV.junk, AV.junk, AV.junk, AV.junk, AV.junk, AV.junk, AV.junk, AV.junk, AV.junk, AV.junk, AV.junk, AV.junk, AV.junk, AV.junk, AV.junk, AV.junk, AV.junk, AV.junk, AV.junk, AV.junk, AV.junk, AV.junk, AV.junk, AV.junk, AV.junk, AV.junk, AV.junk, AV.junk, AV.junk, AV.junk, AV.junk, AV.junk, AV.junk, AV.junk, AV.junk, AV.junk, AV.junk, AV.junk, AV.junk, AV.junk, AV.junk, AV.junk, AV.junk, AV.junk, AV.junk, AV.junk, AV.junk, AV.junk, AV.junk, AV.junk, AV.junk, AV.junk, AV.junk, AV.junk, AV.junk, AV.junk, AV.junk, AV.junk, AV.junk, AV.junk, AV.junk, AV.junk, AV.junk, AV.junk, AV.junk, AV.junk, AV.junk, AV.junk] [])
noncomputable def ref05_Weight_l7 (n : Nat) (b0 : Bool) (r1 : Rows) (j2 : Int) (i0 i1 : Nat) (j3 : Int) (j4 : Int) (j7 : Int) : Option (Int × Unit) :=
  DM.loopFn tm (ref05_Weight_Φ n) ref05_Weight_lv n Try.f32 false [] (OSh.chk (OSh.plain (.i IntKind.i64) [])) 7 [i0] i1 (St.mk [AV.sl b0 [Kd.s, Kd.b, Kd.i IntKind.i64, Kd.s, Kd.s, Kd.sl [Kd.s, Kd.b, Kd.i IntKind.i64, Kd.s], Kd.s, Kd.b, Kd.i IntKind.i64, Kd.s, Kd.sl [Kd.s, Kd.b, Kd.i IntKind.i64, Kd.s, Kd.s, Kd.sl [Kd.s, Kd.b, Kd.i IntKind.i64, Kd.s], Kd.s, Kd.b, Kd.i IntKind.i64, Kd.s]] r1 Right.no, AV.dv (DV.val (Value.int IntKind.i64 j2)), AV.junk, AV.junk, AV.junk, AV.dv (DV.val (Value.int IntKind.i64 j3)), AV.dv (DV.val (Value.int IntKind.i64 j7)), AV.dv (DV.val (Value.int IntKind.i64 j4)), AV.junk, AV.junk, AV.junk, AV.junk, AV.junk, AV.junk, AV.junk, AV.junk, AV.junk, AV.junk, AV.junk, AV.junk, AV.junk, AV.junk, AV.junk, AV.junk, AV.junk, AV.junk, AV.junk, AV.junk, AV.junk, AV.junk, AV.junk, AV.junk, AV.junk, AV.junk, AV.junk, AV.junk, AV.junk, AV.junk, AV.junk, AV.junk, AV.junk, AV.junk, AV.junk, AV.junk, AV.junk, AV.junk, AV.junk, AV.junk, AV.junk, AV.junk, AV.junk, AV.junk, AV.junk, AV.junk, AV.junk, AV.junk, AV.junk, AV.junk, AV.junk, AV.junk, AV.junk, AV.junk, AV.junk, AV.junk, AV.junk, AV.junk, AV.junk, AV.junk, AV.junk, AV.junk, AV.junk, AV.junk, AV.junk, AV.junk, AV.junk, AV.junk, AV.junk] [])
theorem ref05_Weight_s3 (n : Nat) (b0 : Bool) (r1 : Rows) (j2 : Int) (i0 : Nat) (j5 : Int) (j6 : Int) : ref05_Weight_l3 n b0 r1 j2 (i0 + 1) j5 j6 =
  bif decide (j6 < (↑(List.length r1) : Int)) then
    bif decide (j5 ≤ j2) then
      if 0 ≤ j6 then
        if j6 < (↑(List.length r1) : Int) then
          if 0 ≤ j6 then
            if j6 < (↑(List.length r1) : Int) then
              ref05_Weight_l7 n b0 r1 j2 i0 n (IntKind.wrap IntKind.i64 (j5 + IntKind.wrap IntKind.i64 (IntKind.wrap IntKind.i64 (1 + (↑(List.length (Row.R (List.getD r1 (Int.toNat j6) []) 5)) : Int)) + IntKind.wrap IntKind.i64 (Int.tdiv (↑(ByteArray.size (Row.S (List.getD r1 (Int.toNat j6) []) 4)) : Int) 16)))) 0 j6
            else none
          else none
        else none
      else none
    else some (j5, ())
  else some (j5, ()) := by kernel_rfl
theorem ref05_Weight_s7 (n : Nat) (b0 : Bool) (r1 : Rows) (j2 : Int) (i0 i1 : Nat) (j3 : Int) (j4 : Int) (j7 : Int) : ref05_Weight_l7 n b0 r1 j2 i0 (i1 + 1) j3 j4 j7 =
  if 0 ≤ j7 then
    if j7 < (↑(List.length r1) : Int) then
      bif decide (j4 < (↑(List.length (Row.R (List.getD r1 (Int.toNat j7) []) 10)) : Int)) then
        bif decide (j3 ≤ j2) then
          if 0 ≤ j7 then
            if j7 < (↑(List.length r1) : Int) then
              if 0 ≤ j4 then
                if j4 < (↑(List.length (Row.R (List.getD r1 (Int.toNat j7) []) 10)) : Int) then
                  if 0 ≤ j7 then
                    if j7 < (↑(List.length r1) : Int) then
                      if 0 ≤ j4 then
                        if j4 < (↑(List.length (Row.R (List.getD r1 (Int.toNat j7) []) 10)) : Int) then
                          ref05_Weight_l7 n b0 r1 j2 i0 i1 (IntKind.wrap IntKind.i64 (j3 + IntKind.wrap IntKind.i64 (IntKind.wrap IntKind.i64 (1 + (↑(List.length (Row.R (List.getD (Row.R (List.getD r1 (Int.toNat j7) []) 10) (Int.toNat j4) []) 5)) : Int)) + IntKind.wrap IntKind.i64 (Int.tdiv (↑(ByteArray.size (Row.S (List.getD (Row.R (List.getD r1 (Int.toNat j7) []) 10) (Int.toNat j4) []) 4)) : Int) 16)))) (IntKind.wrap IntKind.i64 (j4 + 1)) j7
                        else none
                      else none
                    else none
                  else none
                else none
              else none
            else none
          else none
        else ref05_Weight_l3 n b0 r1 j2 i0 j3 (IntKind.wrap IntKind.i64 (j7 + 1))
      else ref05_Weight_l3 n b0 r1 j2 i0 j3 (IntKind.wrap IntKind.i64 (j7 + 1))
    else none
  else none := by kernel_rfl
theorem ref05_Weight_e (n : Nat) (b0 : Bool) (r1 : Rows) (j2 : Int) : ref05_Weight_v n b0 r1 j2 =
  ref05_Weight_l3 n b0 r1 j2 n 0 0 := by kernel_rfl
theorem ref05_Weight_c (n : Nat) (b0 : Bool) (r1 : Rows) (j2 : Int) (y : Int × Unit) (h : ref05_Weight_v n b0 r1 j2 = some y) : Contract Try.prog 32 [AV.sl b0 [Kd.s, Kd.b, Kd.i IntKind.i64, Kd.s, Kd.s, Kd.sl [Kd.s, Kd.b, Kd.i IntKind.i64, Kd.s], Kd.s, Kd.b, Kd.i IntKind.i64, Kd.s, Kd.sl [Kd.s, Kd.b, Kd.i IntKind.i64, Kd.s, Kd.s, Kd.sl [Kd.s, Kd.b, Kd.i IntKind.i64, Kd.s], Kd.s, Kd.b, Kd.i IntKind.i64, Kd.s]] r1 Right.no, AV.dv (DV.val (Value.int IntKind.i64 j2))] [] (OSh.enc (OSh.plain (.i IntKind.i64) []) y) :=
  auto_okM tm_std (with_ok mixed (by kernel_rfl) (ref05_Weight_σok n) n 0 [1000053]) (with_pick mixed (by kernel_rfl) (ref05_Weight_σok n) n 0 [1000053]) mixed Try.func32 (by decide) (o := (OSh.plain (.i IntKind.i64) [])) h
/-! ref04_Weight: function 33 -/
def ref04_Weight_lv : Live := [(3, [0, 1, 5, 6], [1000, 1001, 1002, 1003]), (7, [0, 1, 5, 6, 7], [1000, 1001, 1002, 1003])]
noncomputable def ref04_Weight_σ (n : Nat) : Spec := Spec.none
theorem ref04_Weight_σok (n : Nat) : SpecOk Try.prog (ref04_Weight_σ n) := (SpecOk.none _)
noncomputable def ref04_Weight_Φ (n : Nat) : Orc := with_ Try.prog (ref04_Weight_σ n) [] n 0 [1000053]
noncomputable def ref04_Weight_v (n : Nat) (b0 : Bool) (r1 : Rows) (j2 : Int) : Option (Int × Unit) :=
  DM.denFn tm (ref04_Weight_Φ n) ref04_Weight_lv n Try.f33 false [AV.sl b0 [Kd.s, Kd.s, Kd.s, Kd.sl [Kd.b, Kd.i IntKind.i64, Kd.s]] r1 Right.no, AV.dv (DV.val (Value.int IntKind.i64 j2))] [] (OSh.chk (OSh.plain (.i IntKind.i64) []))
noncomputable def ref04_Weight_l3 (n : Nat) (b0 : Bool) (r1 : Rows) (j2 : Int) (i0 : Nat) (j5 : Int) (j6 : Int) : Option (Int × Unit) :=
  DM.loopFn tm (ref04_Weight_Φ n) ref04_Weight_lv n Try.f33 false [] (OSh.chk (OSh.plain (.i IntKind.i64) [])) 3 [] i0 (St.mk [AV.sl b0 [Kd.s, Kd.s, Kd.s, Kd.sl [Kd.b, Kd.i IntKind.i64, Kd.s]] r1 Right.no, AV.dv (DV.val (Value.int IntKind.i64 j2)), AV.junk, AV.junk, AV.junk, AV.dv (DV.val (Value.int IntKind.i64 j5)), AV.dv (DV.val (Value.int IntKind.i64 j6)), AV.junk, AV.junk, AV.junk, AV.junk, AV.junk, AV.junk, AV.junk, AV.junk, AV.junk, AV.junk, AV.junk, AV.junk, AV.junk, AV.junk, AV.junk, AV.junk, AV.junk, AV.junk, AV.junk, AV.junk, AV.junk, AV.junk, AV.junk, AV.junk, AV.junk, AV.junk, AV.junk, AV.junk, AV.junk, AV.junk, AV.junk, AV.junk, AV.junk, AV.junk, AV.junk, AV.junk, AV.junk, AV.junk, AV.junk, AV.junk, AV.junk, AV.junk, AV.junk, AV.junk, AV.junk, AV.junk, AV.junk, AV.junk, AV.junk, AV.junk, AV.junk, AV.junk, AV.junk, AV.junk, AV.junk, AV.junk, AV.junk, AV.junk, AV.junk, AV.junk, AV.junk, AV.junk, AV.junk, AV.junk, AV.junk, AV.junk, AV.junk, AV.junk, AV.junk, AV.junk, AV.junk, AV.junk] [])
noncomputable def ref04_Weight_l7 (n : Nat) (b0 : Bool) (r1 : Rows) (j2 : Int) (i0 i1 : Nat) (j3 : Int) (j4 : Int) (j7 : Int) : Option (Int × Unit) :=
  DM.loopFn tm (ref04_Weight_Φ n) ref04_Weight_lv n Try.f33 false [] (OSh.chk (OSh.plain (.i IntKind.i64) [])) 7 [i0] i1 (St.mk [AV.sl b0 [Kd.s, Kd.s, Kd.s, Kd.sl [Kd.b, Kd.i IntKind.i64, Kd.s]] r1 Right.no, AV.dv (DV.val (Value.int IntKind.i64 j2)), AV.junk, AV.junk, AV.junk, AV.dv (DV.val (Value.int IntKind.i64 j3)), AV.dv (DV.val (Value.int IntKind.i64 j7)), AV.dv (DV.val (Value.int IntKind.i64 j4)), AV.junk, AV.junk, AV.junk, AV.junk, AV.junk, AV.junk, AV.junk, AV.junk, AV.junk, AV.junk, AV.junk, AV.junk, AV.junk, AV.junk, AV.junk, AV.junk, AV.junk, AV.junk, AV.junk, AV.junk, AV.junk, AV.junk, AV.junk, AV.junk, AV.junk, AV.junk, AV.junk, AV.junk, AV.junk, AV.junk, AV.junk, AV.junk, AV.junk, AV.junk, AV.junk, AV.junk, AV.junk, AV.junk, AV.junk, AV.junk, AV.junk, AV.junk, AV.junk, AV.junk, AV.junk, AV.junk, AV.junk, AV.junk, AV.junk, AV.junk, AV.junk, AV.junk, AV.junk, AV.junk, AV.junk, AV.junk, AV.junk, AV.junk, AV.junk, AV.junk, AV.junk, AV.junk, AV.junk, AV.junk, AV.junk, AV.junk, AV.junk, AV.junk, AV.junk, AV.junk, AV.junk] [])
theorem ref04_Weight_s3 (n : Nat) (b0 : Bool) (r1 : Rows) (j2 : Int) (i0 : Nat) (j5 : Int) (j6 : Int) : ref04_Weight_l3 n b0 r1 j2 (i0 + 1) j5 j6 =
  bif decide (j6 < (↑(List.length r1) : Int)) then
    bif decide (j5 ≤ j2) then
      if 0 ≤ j6 then
        if j6 < (↑(List.length r1) : Int) then
          if 0 ≤ j6 then
            if j6 < (↑(List.length r1) : Int) then
              if 0 ≤ j6 then
                if j6 < (↑(List.length r1) : Int) then
                  if 0 ≤ j6 then
                    if j6 < (↑(List.length r1) : Int) then
                      ref04_Weight_l7 n b0 r1 j2 i0 n (IntKind.wrap IntKind.i64 (j5 + IntKind.wrap IntKind.i64 (IntKind.wrap IntKind.i64 (1 + (↑(List.length (Row.R (List.getD r1 (Int.toNat j6) []) 3)) : Int)) + IntKind.wrap IntKind.i64 (Int.tdiv (IntKind.wrap IntKind.i64 (IntKind.wrap IntKind.i64 ((↑(ByteArray.size (Row.S (List.getD r1 (Int.toNat j6) []) 0)) : Int) + (↑(ByteArray.size (Row.S (List.getD r1 (Int.toNat j6) []) 1)) : Int)) + (↑(ByteArray.size (Row.S (List.getD r1 (Int.toNat j6) []) 2)) : Int))) 16)))) 0 j6
                    else none
                  else none
                else none
              else none
            else none
          else none
        else none
      else none
    else some (j5, ())
  else some (j5, ()) := by kernel_rfl
theorem ref04_Weight_s7 (n : Nat) (b0 : Bool) (r1 : Rows) (j2 : Int) (i0 i1 : Nat) (j3 : Int) (j4 : Int) (j7 : Int) : ref04_Weight_l7 n b0 r1 j2 i0 (i1 + 1) j3 j4 j7 =
  if 0 ≤ j7 then
    if j7 < (↑(List.length r1) : Int) then
      bif decide (j4 < (↑(List.length (Row.R (List.getD r1 (Int.toNat j7) []) 3)) : Int)) then
        bif decide (j3 ≤ j2) then
          if 0 ≤ j7 then
            if j7 < (↑(List.length r1) : Int) then
              if 0 ≤ j4 then
                if j4 < (↑(List.length (Row.R (List.getD r1 (Int.toNat j7) []) 3)) : Int) then
                  ref04_Weight_l7 n b0 r1 j2 i0 i1 (IntKind.wrap IntKind.i64 (j3 + IntKind.wrap IntKind.i64 (Int.tdiv (↑(ByteArray.size (Row.S (List.getD (Row.R (List.getD r1 (Int.toNat j7) []) 3) (Int.toNat j4) []) 2)) : Int) 16))) (IntKind.wrap IntKind.i64 (j4 + 1)) j7
                else none
              else none
            else none
          else none
        else ref04_Weight_l3 n b0 r1 j2 i0 j3 (IntKind.wrap IntKind.i64 (j7 + 1))
      else ref04_Weight_l3 n b0 r1 j2 i0 j3 (IntKind.wrap IntKind.i64 (j7 + 1))
    else none
  else none := by kernel_rfl
theorem ref04_Weight_e (n : Nat) (b0 : Bool) (r1 : Rows) (j2 : Int) : ref04_Weight_v n b0 r1 j2 =
  ref04_Weight_l3 n b0 r1 j2 n 0 0 := by kernel_rfl
theorem ref04_Weight_c (n : Nat) (b0 : Bool) (r1 : Rows) (j2 : Int) (y : Int × Unit) (h : ref04_Weight_v n b0 r1 j2 = some y) : Contract Try.prog 33 [AV.sl b0 [Kd.s, Kd.s, Kd.s, Kd.sl [Kd.b, Kd.i IntKind.i64, Kd.s]] r1 Right.no, AV.dv (DV.val (Value.int IntKind.i64 j2))] [] (OSh.enc (OSh.plain (.i IntKind.i64) []) y) :=
  auto_okM tm_std (with_ok mixed (by kernel_rfl) (ref04_Weight_σok n) n 0 [1000053]) (with_pick mixed (by kernel_rfl) (ref04_Weight_σok n) n 0 [1000053]) mixed Try.func33 (by decide) (o := (OSh.plain (.i IntKind.i64) [])) h
/-! law11_light: function 15 -/
def law11_light_lv : Live := []
noncomputable def law11_light_σ (n : Nat) : Spec := (inst 32 [.sl [Kd.s, Kd.b, Kd.i IntKind.i64, Kd.s, Kd.s, Kd.sl [Kd.s, Kd.b, Kd.i IntKind.i64, Kd.s], Kd.s, Kd.b, Kd.i IntKind.i64, Kd.s, Kd.sl [Kd.s, Kd.b, Kd.i IntKind.i64, Kd.s, Kd.s, Kd.sl [Kd.s, Kd.b, Kd.i IntKind.i64, Kd.s], Kd.s, Kd.b, Kd.i IntKind.i64, Kd.s]], .i IntKind.i64] [] (OSh.plain (.i IntKind.i64) []) (fun x e => ref05_Weight_v n x.1.1 x.1.2 x.2.1) (inst 33 [.sl [Kd.s, Kd.s, Kd.s, Kd.sl [Kd.b, Kd.i IntKind.i64, Kd.s]], .i IntKind.i64] [] (OSh.plain (.i IntKind.i64) []) (fun x e => ref04_Weight_v n x.1.1 x.1.2 x.2.1) Spec.none))
theorem law11_light_σok (n : Nat) : SpecOk Try.prog (law11_light_σ n) := (inst_ok (fun x e y h => ref05_Weight_c n x.1.1 x.1.2 x.2.1 y h) (inst_ok (fun x e y h => ref04_Weight_c n x.1.1 x.1.2 x.2.1 y h) (SpecOk.none _)))
noncomputable def law11_light_Φ (n : Nat) : Orc := with_ Try.prog (law11_light_σ n) [] n 0 [1000053]
noncomputable def law11_light_v (n : Nat) (s0 : ByteArray) (b1 : Bool) (j2 : Int) (s3 : ByteArray) (s4 : ByteArray) (b5 : Bool) (r6 : Rows) (s7 : ByteArray) (b8 : Bool) (j9 : Int) (s10 : ByteArray) (b11 : Bool) (r12 : Rows) (b13 : Bool) (r14 : Rows) (b15 : Bool) (r16 : Rows) : Option (Bool × Unit) :=
  DM.denFn tm (law11_light_Φ n) law11_light_lv n Try.f15 false [AV.agg [AV.dv (DV.val (Value.string s0)), AV.dv (DV.val (Value.bool b1)), AV.dv (DV.val (Value.int IntKind.i64 j2)), AV.dv (DV.val (Value.string s3)), AV.dv (DV.val (Value.string s4)), AV.sl b5 [Kd.s, Kd.b, Kd.i IntKind.i64, Kd.s] r6 Right.no, AV.dv (DV.val (Value.string s7)), AV.dv (DV.val (Value.bool b8)), AV.dv (DV.val (Value.int IntKind.i64 j9)), AV.dv (DV.val (Value.string s10)), AV.sl b11 [Kd.s, Kd.b, Kd.i IntKind.i64, Kd.s, Kd.s, Kd.sl [Kd.s, Kd.b, Kd.i IntKind.i64, Kd.s], Kd.s, Kd.b, Kd.i IntKind.i64, Kd.s] r12 Right.no], AV.sl b13 [Kd.s, Kd.s, Kd.s, Kd.sl [Kd.b, Kd.i IntKind.i64, Kd.s]] r14 Right.no, AV.sl b15 [Kd.s, Kd.b, Kd.i IntKind.i64, Kd.s] r16 Right.no] [] (OSh.chk (OSh.plain (.b) []))
theorem law11_light_e (n : Nat) (s0 : ByteArray) (b1 : Bool) (j2 : Int) (s3 : ByteArray) (s4 : ByteArray) (b5 : Bool) (r6 : Rows) (s7 : ByteArray) (b8 : Bool) (j9 : Int) (s10 : ByteArray) (b11 : Bool) (r12 : Rows) (b13 : Bool) (r14 : Rows) (b15 : Bool) (r16 : Rows) : law11_light_v n s0 b1 j2 s3 s4 b5 r6 s7 b8 j9 s10 b11 r12 b13 r14 b15 r16 =
  obind (ref05_Weight_v n false ([[DV.val (Value.string s0), DV.val (Value.bool b1), DV.val (Value.int IntKind.i64 j2), DV.val (Value.string s3), DV.val (Value.string s4), DV.sl b5 [Kd.s, Kd.b, Kd.i IntKind.i64, Kd.s] r6, DV.val (Value.string s7), DV.val (Value.bool b8), DV.val (Value.int IntKind.i64 j9), DV.val (Value.string s10), DV.sl b11 [Kd.s, Kd.b, Kd.i IntKind.i64, Kd.s, Kd.s, Kd.sl [Kd.s, Kd.b, Kd.i IntKind.i64, Kd.s], Kd.s, Kd.b, Kd.i IntKind.i64, Kd.s] r12]]) 200) fun y17 =>
  bif decide (y17.fst ≤ 200) then
    obind (ref04_Weight_v n b13 r14 200) fun y18 =>
    bif decide (y18.fst ≤ 200) then
      some (decide ((↑(List.length r16) : Int) ≤ 200), ())
    else some (false, ())
  else some (false, ()) := by kernel_rfl
theorem law11_light_c (n : Nat) (s0 : ByteArray) (b1 : Bool) (j2 : Int) (s3 : ByteArray) (s4 : ByteArray) (b5 : Bool) (r6 : Rows) (s7 : ByteArray) (b8 : Bool) (j9 : Int) (s10 : ByteArray) (b11 : Bool) (r12 : Rows) (b13 : Bool) (r14 : Rows) (b15 : Bool) (r16 : Rows) (y : Bool × Unit) (h : law11_light_v n s0 b1 j2 s3 s4 b5 r6 s7 b8 j9 s10 b11 r12 b13 r14 b15 r16 = some y) : Contract Try.prog 15 [AV.agg [AV.dv (DV.val (Value.string s0)), AV.dv (DV.val (Value.bool b1)), AV.dv (DV.val (Value.int IntKind.i64 j2)), AV.dv (DV.val (Value.string s3)), AV.dv (DV.val (Value.string s4)), AV.sl b5 [Kd.s, Kd.b, Kd.i IntKind.i64, Kd.s] r6 Right.no, AV.dv (DV.val (Value.string s7)), AV.dv (DV.val (Value.bool b8)), AV.dv (DV.val (Value.int IntKind.i64 j9)), AV.dv (DV.val (Value.string s10)), AV.sl b11 [Kd.s, Kd.b, Kd.i IntKind.i64, Kd.s, Kd.s, Kd.sl [Kd.s, Kd.b, Kd.i IntKind.i64, Kd.s], Kd.s, Kd.b, Kd.i IntKind.i64, Kd.s] r12 Right.no], AV.sl b13 [Kd.s, Kd.s, Kd.s, Kd.sl [Kd.b, Kd.i IntKind.i64, Kd.s]] r14 Right.no, AV.sl b15 [Kd.s, Kd.b, Kd.i IntKind.i64, Kd.s] r16 Right.no] [] (OSh.enc (OSh.plain (.b) []) y) :=
  auto_okM tm_std (with_ok mixed (by kernel_rfl) (law11_light_σok n) n 0 [1000053]) (with_pick mixed (by kernel_rfl) (law11_light_σok n) n 0 [1000053]) mixed Try.func15 (by decide) (o := (OSh.plain (.b) [])) h
/-! match_or: function 34 -/
def match_or_lv : Live := []
noncomputable def match_or_σ (n : Nat) : Spec := Spec.none
theorem match_or_σok (n : Nat) : SpecOk Try.prog (match_or_σ n) := (SpecOk.none _)
noncomputable def match_or_Φ (n : Nat) : Orc := with_ Try.prog (match_or_σ n) [] n 0 [1000053]
noncomputable def match_or_v (n : Nat) (s0 : ByteArray) (b1 : Bool) (j2 : Int) (s3 : ByteArray) (s4 : ByteArray) (b5 : Bool) (j6 : Int) (s7 : ByteArray) : Option ((ByteArray × Bool × Int × ByteArray × Unit) × Unit) :=
  DM.denFn tm (match_or_Φ n) match_or_lv n Try.f34 false [AV.agg [AV.dv (DV.val (Value.string s0)), AV.dv (DV.val (Value.bool b1)), AV.dv (DV.val (Value.int IntKind.i64 j2)), AV.dv (DV.val (Value.string s3))], AV.agg [AV.dv (DV.val (Value.string s4)), AV.dv (DV.val (Value.bool b5)), AV.dv (DV.val (Value.int IntKind.i64 j6)), AV.dv (DV.val (Value.string s7))]] [] (OSh.chk (OSh.plain (.agg [.s, .b, .i IntKind.i64, .s]) []))
theorem match_or_e (n : Nat) (s0 : ByteArray) (b1 : Bool) (j2 : Int) (s3 : ByteArray) (s4 : ByteArray) (b5 : Bool) (j6 : Int) (s7 : ByteArray) : match_or_v n s0 b1 j2 s3 s4 b5 j6 s7 =
  bif s0 == ByteArray.mk #[] && (b1 == false && (j2 == 0 && (s3 == ByteArray.mk #[] && true))) then
    some ((s4, (b5, (j6, (s7, ())))), ())
  else some ((s0, (b1, (j2, (s3, ())))), ()) := by kernel_rfl
theorem match_or_c (n : Nat) (s0 : ByteArray) (b1 : Bool) (j2 : Int) (s3 : ByteArray) (s4 : ByteArray) (b5 : Bool) (j6 : Int) (s7 : ByteArray) (y : (ByteArray × Bool × Int × ByteArray × Unit) × Unit) (h : match_or_v n s0 b1 j2 s3 s4 b5 j6 s7 = some y) : Contract Try.prog 34 [AV.agg [AV.dv (DV.val (Value.string s0)), AV.dv (DV.val (Value.bool b1)), AV.dv (DV.val (Value.int IntKind.i64 j2)), AV.dv (DV.val (Value.string s3))], AV.agg [AV.dv (DV.val (Value.string s4)), AV.dv (DV.val (Value.bool b5)), AV.dv (DV.val (Value.int IntKind.i64 j6)), AV.dv (DV.val (Value.string s7))]] [] (OSh.enc (OSh.plain (.agg [.s, .b, .i IntKind.i64, .s]) []) y) :=
  auto_okM tm_std (with_ok mixed (by kernel_rfl) (match_or_σok n) n 0 [1000053]) (with_pick mixed (by kernel_rfl) (match_or_σok n) n 0 [1000053]) mixed Try.func34 (by decide) (o := (OSh.plain (.agg [.s, .b, .i IntKind.i64, .s]) [])) h
/-! match_text: function 35 -/
def match_text_lv : Live := []
noncomputable def match_text_σ (n : Nat) : Spec := Spec.none
theorem match_text_σok (n : Nat) : SpecOk Try.prog (match_text_σ n) := (SpecOk.none _)
noncomputable def match_text_Φ (n : Nat) : Orc := with_ Try.prog (match_text_σ n) [] n 0 [1000053]
noncomputable def match_text_v (n : Nat) (s0 : ByteArray) : Option ((Bool × Int × ByteArray × Unit) × Unit) :=
  DM.denFn tm (match_text_Φ n) match_text_lv n Try.f35 false [AV.dv (DV.val (Value.string s0))] [] (OSh.chk (OSh.plain (.agg [.b, .i IntKind.i64, .s]) []))
theorem match_text_e (n : Nat) (s0 : ByteArray) : match_text_v n s0 =
  some ((false, (0, (s0, ()))), ()) := by kernel_rfl
theorem match_text_c (n : Nat) (s0 : ByteArray) (y : (Bool × Int × ByteArray × Unit) × Unit) (h : match_text_v n s0 = some y) : Contract Try.prog 35 [AV.dv (DV.val (Value.string s0))] [] (OSh.enc (OSh.plain (.agg [.b, .i IntKind.i64, .s]) []) y) :=
  auto_okM tm_std (with_ok mixed (by kernel_rfl) (match_text_σok n) n 0 [1000053]) (with_pick mixed (by kernel_rfl) (match_text_σok n) n 0 [1000053]) mixed Try.func35 (by decide) (o := (OSh.plain (.agg [.b, .i IntKind.i64, .s]) [])) h
/-! match_Value_1: function 29 -/
def match_Value_1_lv : Live := []
noncomputable def match_Value_1_σ (n : Nat) : Spec := Spec.none
theorem match_Value_1_σok (n : Nat) : SpecOk Try.prog (match_Value_1_σ n) := (SpecOk.none _)
noncomputable def match_Value_1_Φ (n : Nat) : Orc := with_ Try.prog (match_Value_1_σ n) [] n 0 [1000053]
noncomputable def match_Value_1_v (n : Nat) (s0 : ByteArray) (b1 : Bool) (j2 : Int) (s3 : ByteArray) (s4 : ByteArray) (b5 : Bool) (j6 : Int) (s7 : ByteArray) : Option (Bool × (ByteArray × Bool × Int × ByteArray × Unit) × Unit) :=
  DM.denFn tm (match_Value_1_Φ n) match_Value_1_lv n Try.f29 false [AV.agg [AV.dv (DV.val (Value.string s0)), AV.dv (DV.val (Value.bool b1)), AV.dv (DV.val (Value.int IntKind.i64 j2)), AV.dv (DV.val (Value.string s3))], AV.pl 1000 0] [[AV.dv (DV.val (Value.string s4)), AV.dv (DV.val (Value.bool b5)), AV.dv (DV.val (Value.int IntKind.i64 j6)), AV.dv (DV.val (Value.string s7))]] (OSh.chk (OSh.plain (.b) [[.s, .b, .i IntKind.i64, .s]]))
theorem match_Value_1_e (n : Nat) (s0 : ByteArray) (b1 : Bool) (j2 : Int) (s3 : ByteArray) (s4 : ByteArray) (b5 : Bool) (j6 : Int) (s7 : ByteArray) : match_Value_1_v n s0 b1 j2 s3 s4 b5 j6 s7 =
  some (s0 == s4, ((s4, (b5, (j6, (s7, ())))), ())) := by kernel_rfl
theorem match_Value_1_c (n : Nat) (s0 : ByteArray) (b1 : Bool) (j2 : Int) (s3 : ByteArray) (s4 : ByteArray) (b5 : Bool) (j6 : Int) (s7 : ByteArray) (y : Bool × (ByteArray × Bool × Int × ByteArray × Unit) × Unit) (h : match_Value_1_v n s0 b1 j2 s3 s4 b5 j6 s7 = some y) : Contract Try.prog 29 [AV.agg [AV.dv (DV.val (Value.string s0)), AV.dv (DV.val (Value.bool b1)), AV.dv (DV.val (Value.int IntKind.i64 j2)), AV.dv (DV.val (Value.string s3))], AV.pl 1000 0] [[AV.dv (DV.val (Value.string s4)), AV.dv (DV.val (Value.bool b5)), AV.dv (DV.val (Value.int IntKind.i64 j6)), AV.dv (DV.val (Value.string s7))]] (OSh.enc (OSh.plain (.b) [[.s, .b, .i IntKind.i64, .s]]) y) :=
  auto_okM tm_std (with_ok mixed (by kernel_rfl) (match_Value_1_σok n) n 0 [1000053]) (with_pick mixed (by kernel_rfl) (match_Value_1_σok n) n 0 [1000053]) mixed Try.func29 (by decide) (o := (OSh.plain (.b) [[.s, .b, .i IntKind.i64, .s]])) h
/-! slices_IndexFunc: function 28 -/
def slices_IndexFunc_match_Value_1_lv : Live := [(2, [0, 1, 7, 8], [1000, 1001, 1002, 1003])]
noncomputable def slices_IndexFunc_match_Value_1_σ (n : Nat) : Spec := (inst 29 [.agg [.s, .b, .i IntKind.i64, .s], .pl 1000 0] [[.s, .b, .i IntKind.i64, .s]] (OSh.plain (.b) [[.s, .b, .i IntKind.i64, .s]]) (fun x e => match_Value_1_v n x.1.1 x.1.2.1 x.1.2.2.1 x.1.2.2.2.1 e.1.1 e.1.2.1 e.1.2.2.1 e.1.2.2.2.1) Spec.none)
theorem slices_IndexFunc_match_Value_1_σok (n : Nat) : SpecOk Try.prog (slices_IndexFunc_match_Value_1_σ n) := (inst_ok (fun x e y h => match_Value_1_c n x.1.1 x.1.2.1 x.1.2.2.1 x.1.2.2.2.1 e.1.1 e.1.2.1 e.1.2.2.1 e.1.2.2.2.1 y h) (SpecOk.none _))
noncomputable def slices_IndexFunc_match_Value_1_Φ (n : Nat) : Orc := with_ Try.prog (slices_IndexFunc_match_Value_1_σ n) [] n 0 [1000053]
noncomputable def slices_IndexFunc_match_Value_1_v (n : Nat) (b0 : Bool) (r1 : Rows) (s2 : ByteArray) (b3 : Bool) (j4 : Int) (s5 : ByteArray) : Option (Int × (ByteArray × Bool × Int × ByteArray × Unit) × Unit) :=
  DM.denFn tm (slices_IndexFunc_match_Value_1_Φ n) slices_IndexFunc_match_Value_1_lv n Try.f28 false [AV.sl b0 [Kd.s, Kd.b, Kd.i IntKind.i64, Kd.s] r1 Right.no, AV.fn 29 [AV.pl 1000 0]] [[AV.dv (DV.val (Value.string s2)), AV.dv (DV.val (Value.bool b3)), AV.dv (DV.val (Value.int IntKind.i64 j4)), AV.dv (DV.val (Value.string s5))]] (OSh.chk (OSh.plain (.i IntKind.i64) [[.s, .b, .i IntKind.i64, .s]]))
noncomputable def slices_IndexFunc_match_Value_1_l2 (n : Nat) (b0 : Bool) (r1 : Rows) (s2 : ByteArray) (b3 : Bool) (j4 : Int) (s5 : ByteArray) (i0 : Nat) (j7 : Int) (s8 : ByteArray) (b9 : Bool) (j10 : Int) (s11 : ByteArray) : Option (Int × (ByteArray × Bool × Int × ByteArray × Unit) × Unit) :=
  DM.loopFn tm (slices_IndexFunc_match_Value_1_Φ n) slices_IndexFunc_match_Value_1_lv n Try.f28 false [[AV.dv (DV.val (Value.string s2)), AV.dv (DV.val (Value.bool b3)), AV.dv (DV.val (Value.int IntKind.i64 j4)), AV.dv (DV.val (Value.string s5))]] (OSh.chk (OSh.plain (.i IntKind.i64) [[.s, .b, .i IntKind.i64, .s]])) 2 [] i0 (St.mk [AV.sl b0 [Kd.s, Kd.b, Kd.i IntKind.i64, Kd.s] r1 Right.no, AV.fn 29 [AV.pl 1000 0], AV.junk, AV.junk, AV.junk, AV.junk, AV.junk, AV.dv (DV.val (Value.int IntKind.i64 (↑(List.length r1) : Int))), AV.dv (DV.val (Value.int IntKind.i64 j7)), AV.junk, AV.junk, AV.junk, AV.junk, AV.junk, AV.junk, AV.junk, AV.junk, AV.junk, AV.junk] [(1000, [AV.dv (DV.val (Value.string s8)), AV.dv (DV.val (Value.bool b9)), AV.dv (DV.val (Value.int IntKind.i64 j10)), AV.dv (DV.val (Value.string s11))])])
theorem slices_IndexFunc_match_Value_1_s2 (n : Nat) (b0 : Bool) (r1 : Rows) (s2 : ByteArray) (b3 : Bool) (j4 : Int) (s5 : ByteArray) (i0 : Nat) (j7 : Int) (s8 : ByteArray) (b9 : Bool) (j10 : Int) (s11 : ByteArray) : slices_IndexFunc_match_Value_1_l2 n b0 r1 s2 b3 j4 s5 (i0 + 1) j7 s8 b9 j10 s11 =
  bif decide (j7 < (↑(List.length r1) : Int)) then
    if 0 ≤ j7 then
      if j7 < (↑(List.length r1) : Int) then
        obind (match_Value_1_v n (Row.S (List.getD r1 (Int.toNat j7) []) 0) (Row.B (List.getD r1 (Int.toNat j7) []) 1) (Row.I (List.getD r1 (Int.toNat j7) []) 2) (Row.S (List.getD r1 (Int.toNat j7) []) 3) s8 b9 j10 s11) fun y12 =>
        bif y12.fst then
          some (j7, ((y12.snd.fst.fst, (y12.snd.fst.snd.fst, (y12.snd.fst.snd.snd.fst, (y12.snd.fst.snd.snd.snd.fst, ())))), ()))
        else slices_IndexFunc_match_Value_1_l2 n b0 r1 s2 b3 j4 s5 i0 (IntKind.wrap IntKind.i64 (j7 + 1)) y12.snd.fst.fst y12.snd.fst.snd.fst y12.snd.fst.snd.snd.fst y12.snd.fst.snd.snd.snd.fst
      else none
    else none
  else some (-1, ((s8, (b9, (j10, (s11, ())))), ())) := by kernel_rfl
theorem slices_IndexFunc_match_Value_1_e (n : Nat) (b0 : Bool) (r1 : Rows) (s2 : ByteArray) (b3 : Bool) (j4 : Int) (s5 : ByteArray) : slices_IndexFunc_match_Value_1_v n b0 r1 s2 b3 j4 s5 =
  slices_IndexFunc_match_Value_1_l2 n b0 r1 s2 b3 j4 s5 n 0 s2 b3 j4 s5 := by kernel_rfl
theorem slices_IndexFunc_match_Value_1_c (n : Nat) (b0 : Bool) (r1 : Rows) (s2 : ByteArray) (b3 : Bool) (j4 : Int) (s5 : ByteArray) (y : Int × (ByteArray × Bool × Int × ByteArray × Unit) × Unit) (h : slices_IndexFunc_match_Value_1_v n b0 r1 s2 b3 j4 s5 = some y) : Contract Try.prog 28 [AV.sl b0 [Kd.s, Kd.b, Kd.i IntKind.i64, Kd.s] r1 Right.no, AV.fn 29 [AV.pl 1000 0]] [[AV.dv (DV.val (Value.string s2)), AV.dv (DV.val (Value.bool b3)), AV.dv (DV.val (Value.int IntKind.i64 j4)), AV.dv (DV.val (Value.string s5))]] (OSh.enc (OSh.plain (.i IntKind.i64) [[.s, .b, .i IntKind.i64, .s]]) y) :=
  auto_okM tm_std (with_ok mixed (by kernel_rfl) (slices_IndexFunc_match_Value_1_σok n) n 0 [1000053]) (with_pick mixed (by kernel_rfl) (slices_IndexFunc_match_Value_1_σok n) n 0 [1000053]) mixed Try.func28 (by decide) (o := (OSh.plain (.i IntKind.i64) [[.s, .b, .i IntKind.i64, .s]])) h
/-! match_Value: function 10 -/
def match_Value_lv : Live := []
noncomputable def match_Value_σ (n : Nat) : Spec := (inst 28 [.sl [Kd.s, Kd.b, Kd.i IntKind.i64, Kd.s], .fn 29 [.pl 1000 0]] [[.s, .b, .i IntKind.i64, .s]] (OSh.plain (.i IntKind.i64) [[.s, .b, .i IntKind.i64, .s]]) (fun x e => slices_IndexFunc_match_Value_1_v n x.1.1 x.1.2 e.1.1 e.1.2.1 e.1.2.2.1 e.1.2.2.2.1) Spec.none)
theorem match_Value_σok (n : Nat) : SpecOk Try.prog (match_Value_σ n) := (inst_ok (fun x e y h => slices_IndexFunc_match_Value_1_c n x.1.1 x.1.2 e.1.1 e.1.2.1 e.1.2.2.1 e.1.2.2.2.1 y h) (SpecOk.none _))
noncomputable def match_Value_Φ (n : Nat) : Orc := with_ Try.prog (match_Value_σ n) [] n 0 [1000053]
noncomputable def match_Value_v (n : Nat) (s0 : ByteArray) (b1 : Bool) (j2 : Int) (s3 : ByteArray) (b4 : Bool) (r5 : Rows) : Option (((Bool × Int × ByteArray × Unit) × Bool × Unit) × Unit) :=
  DM.denFn tm (match_Value_Φ n) match_Value_lv n Try.f10 false [AV.agg [AV.dv (DV.val (Value.string s0)), AV.dv (DV.val (Value.bool b1)), AV.dv (DV.val (Value.int IntKind.i64 j2)), AV.dv (DV.val (Value.string s3))], AV.sl b4 [Kd.s, Kd.b, Kd.i IntKind.i64, Kd.s] r5 Right.no] [] (OSh.chk (OSh.plain (.tup [.agg [.b, .i IntKind.i64, .s], .b]) []))
theorem match_Value_e (n : Nat) (s0 : ByteArray) (b1 : Bool) (j2 : Int) (s3 : ByteArray) (b4 : Bool) (r5 : Rows) : match_Value_v n s0 b1 j2 s3 b4 r5 =
  bif s0 == ByteArray.mk #[] && (b1 == false && (j2 == 0 && (s3 == ByteArray.mk #[] && true))) then
    some (((false, (0, (ByteArray.mk #[], ()))), (false, ())), ())
  else bif s0 == ByteArray.mk #[] then
    some (((b1, (j2, (s3, ()))), (true, ())), ())
  else obind (slices_IndexFunc_match_Value_1_v n b4 r5 s0 b1 j2 s3) fun y6 =>
  bif decide (y6.fst < 0) then
    some (((false, (0, (ByteArray.mk #[], ()))), (false, ())), ())
  else if 0 ≤ y6.fst then
    if y6.fst < (↑(List.length r5) : Int) then
      some (((Row.B (List.getD r5 (Int.toNat y6.fst) []) 1, (Row.I (List.getD r5 (Int.toNat y6.fst) []) 2, (Row.S (List.getD r5 (Int.toNat y6.fst) []) 3, ()))), (true, ())), ())
    else none
  else none := by kernel_rfl
theorem match_Value_c (n : Nat) (s0 : ByteArray) (b1 : Bool) (j2 : Int) (s3 : ByteArray) (b4 : Bool) (r5 : Rows) (y : ((Bool × Int × ByteArray × Unit) × Bool × Unit) × Unit) (h : match_Value_v n s0 b1 j2 s3 b4 r5 = some y) : Contract Try.prog 10 [AV.agg [AV.dv (DV.val (Value.string s0)), AV.dv (DV.val (Value.bool b1)), AV.dv (DV.val (Value.int IntKind.i64 j2)), AV.dv (DV.val (Value.string s3))], AV.sl b4 [Kd.s, Kd.b, Kd.i IntKind.i64, Kd.s] r5 Right.no] [] (OSh.enc (OSh.plain (.tup [.agg [.b, .i IntKind.i64, .s], .b]) []) y) :=
  auto_okM tm_std (with_ok mixed (by kernel_rfl) (match_Value_σok n) n 0 [1000053]) (with_pick mixed (by kernel_rfl) (match_Value_σok n) n 0 [1000053]) mixed Try.func10 (by decide) (o := (OSh.plain (.tup [.agg [.b, .i IntKind.i64, .s], .b]) [])) h
/-! slices_Clone: function 31 -/
def slices_Clone_lv : Live := []
noncomputable def slices_Clone_σ (n : Nat) : Spec := Spec.none
theorem slices_Clone_σok (n : Nat) : SpecOk Try.prog (slices_Clone_σ n) := (SpecOk.none _)
noncomputable def slices_Clone_Φ (n : Nat) : Orc := with_ Try.prog (slices_Clone_σ n) [] n 0 [1000053]
noncomputable def slices_Clone_v (n : Nat) (b0 : Bool) (r1 : Rows) : Option ((Bool × Rows) × Unit) :=
  DM.denFn tm (slices_Clone_Φ n) slices_Clone_lv n Try.f31 true [AV.sl b0 [Kd.s, Kd.b, Kd.i IntKind.i64, Kd.s] r1 Right.no] [] (OSh.chk (OSh.plain (.slt [Kd.s, Kd.b, Kd.i IntKind.i64, Kd.s] 0) []))
theorem slices_Clone_e (n : Nat) (b0 : Bool) (r1 : Rows) : slices_Clone_v n b0 r1 =
  bif b0 then
    some ((true, []), ())
  else if (0 + List.length r1) * 48 ≤ 140737488355328 then
    some ((false && List.isEmpty r1, appX [] r1), ())
  else none := by kernel_rfl
theorem slices_Clone_c (n : Nat) (b0 : Bool) (r1 : Rows) (y : (Bool × Rows) × Unit) (h : slices_Clone_v n b0 r1 = some y) : Contract Try.prog 31 [AV.sl b0 [Kd.s, Kd.b, Kd.i IntKind.i64, Kd.s] r1 Right.no] [] (OSh.enc (OSh.plain (.slt [Kd.s, Kd.b, Kd.i IntKind.i64, Kd.s] 0) []) y) :=
  auto_okM tm_std (with_ok mixed (by kernel_rfl) (slices_Clone_σok n) n 0 [1000053]) (with_pick mixed (by kernel_rfl) (slices_Clone_σok n) n 0 [1000053]) mixed Try.func31 (by decide) (o := (OSh.plain (.slt [Kd.s, Kd.b, Kd.i IntKind.i64, Kd.s] 0) [])) h
/-! match_Unify: function 12 -/
def match_Unify_lv : Live := []
noncomputable def match_Unify_σ (n : Nat) : Spec := (inst 10 [.agg [.s, .b, .i IntKind.i64, .s], .sl [Kd.s, Kd.b, Kd.i IntKind.i64, Kd.s]] [] (OSh.plain (.tup [.agg [.b, .i IntKind.i64, .s], .b]) []) (fun x e => match_Value_v n x.1.1 x.1.2.1 x.1.2.2.1 x.1.2.2.2.1 x.2.1.1 x.2.1.2) (inst 31 [.sl [Kd.s, Kd.b, Kd.i IntKind.i64, Kd.s]] [] (OSh.plain (.slt [Kd.s, Kd.b, Kd.i IntKind.i64, Kd.s] 0) []) (fun x e => slices_Clone_v n x.1.1 x.1.2) Spec.none))
theorem match_Unify_σok (n : Nat) : SpecOk Try.prog (match_Unify_σ n) := (inst_ok (fun x e y h => match_Value_c n x.1.1 x.1.2.1 x.1.2.2.1 x.1.2.2.2.1 x.2.1.1 x.2.1.2 y h) (inst_ok (fun x e y h => slices_Clone_c n x.1.1 x.1.2 y h) (SpecOk.none _)))
noncomputable def match_Unify_Φ (n : Nat) : Orc := with_ Try.prog (match_Unify_σ n) [] n 0 [1000053]
noncomputable def match_Unify_v (n : Nat) (s0 : ByteArray) (b1 : Bool) (j2 : Int) (s3 : ByteArray) (b4 : Bool) (j5 : Int) (s6 : ByteArray) (b7 : Bool) (r8 : Rows) : Option (((Bool × Rows) × Bool × Unit) × Unit) :=
  DM.denFn tm (match_Unify_Φ n) match_Unify_lv n Try.f12 true [AV.agg [AV.dv (DV.val (Value.string s0)), AV.dv (DV.val (Value.bool b1)), AV.dv (DV.val (Value.int IntKind.i64 j2)), AV.dv (DV.val (Value.string s3))], AV.agg [AV.dv (DV.val (Value.bool b4)), AV.dv (DV.val (Value.int IntKind.i64 j5)), AV.dv (DV.val (Value.string s6))], AV.sl b7 [Kd.s, Kd.b, Kd.i IntKind.i64, Kd.s] r8 Right.no] [] (OSh.chk (OSh.plain (.tup [.slt [Kd.s, Kd.b, Kd.i IntKind.i64, Kd.s] 0, .b]) []))
theorem match_Unify_e (n : Nat) (s0 : ByteArray) (b1 : Bool) (j2 : Int) (s3 : ByteArray) (b4 : Bool) (j5 : Int) (s6 : ByteArray) (b7 : Bool) (r8 : Rows) : match_Unify_v n s0 b1 j2 s3 b4 j5 s6 b7 r8 =
  obind (match_Value_v n s0 b1 j2 s3 b7 r8) fun y9 =>
  bif y9.fst.snd.fst then
    bif !(y9.fst.fst.fst == b4 && (y9.fst.fst.snd.fst == j5 && (y9.fst.fst.snd.snd.fst == s6 && true))) then
      some (((true, []), (false, ())), ())
    else obind (slices_Clone_v n b7 r8) fun y10 =>
    some (((y10.fst.fst, y10.fst.snd), (true, ())), ())
  else bif s0 == ByteArray.mk #[] then
    some (((true, []), (false, ())), ())
  else obind (slices_Clone_v n b7 r8) fun y11 =>
  if (List.length y11.fst.snd + List.length [[DV.val (Value.string s0), DV.val (Value.bool b4), DV.val (Value.int IntKind.i64 j5), DV.val (Value.string s6)]]) * 48 ≤ 140737488355328 then
    some (((y11.fst.fst && List.isEmpty [[DV.val (Value.string s0), DV.val (Value.bool b4), DV.val (Value.int IntKind.i64 j5), DV.val (Value.string s6)]], appX y11.fst.snd [[DV.val (Value.string s0), DV.val (Value.bool b4), DV.val (Value.int IntKind.i64 j5), DV.val (Value.string s6)]]), (true, ())), ())
  else none := by kernel_rfl
theorem match_Unify_c (n : Nat) (s0 : ByteArray) (b1 : Bool) (j2 : Int) (s3 : ByteArray) (b4 : Bool) (j5 : Int) (s6 : ByteArray) (b7 : Bool) (r8 : Rows) (y : ((Bool × Rows) × Bool × Unit) × Unit) (h : match_Unify_v n s0 b1 j2 s3 b4 j5 s6 b7 r8 = some y) : Contract Try.prog 12 [AV.agg [AV.dv (DV.val (Value.string s0)), AV.dv (DV.val (Value.bool b1)), AV.dv (DV.val (Value.int IntKind.i64 j2)), AV.dv (DV.val (Value.string s3))], AV.agg [AV.dv (DV.val (Value.bool b4)), AV.dv (DV.val (Value.int IntKind.i64 j5)), AV.dv (DV.val (Value.string s6))], AV.sl b7 [Kd.s, Kd.b, Kd.i IntKind.i64, Kd.s] r8 Right.no] [] (OSh.enc (OSh.plain (.tup [.slt [Kd.s, Kd.b, Kd.i IntKind.i64, Kd.s] 0, .b]) []) y) :=
  auto_okM tm_std (with_ok mixed (by kernel_rfl) (match_Unify_σok n) n 0 [1000053]) (with_pick mixed (by kernel_rfl) (match_Unify_σok n) n 0 [1000053]) mixed Try.func12 (by decide) (o := (OSh.plain (.tup [.slt [Kd.s, Kd.b, Kd.i IntKind.i64, Kd.s] 0, .b]) [])) h
/-! match_Literal: function 16 -/
def match_Literal_mz_lv : Live := [(10, [3, 6, 10, 61, 62, 63], [6, 1000, 1001, 1002, 1003])]
noncomputable def match_Literal_mz_σ (n : Nat) : Spec := (inst 34 [.agg [.s, .b, .i IntKind.i64, .s], .agg [.s, .b, .i IntKind.i64, .s]] [] (OSh.plain (.agg [.s, .b, .i IntKind.i64, .s]) []) (fun x e => match_or_v n x.1.1 x.1.2.1 x.1.2.2.1 x.1.2.2.2.1 x.2.1.1 x.2.1.2.1 x.2.1.2.2.1 x.2.1.2.2.2.1) (inst 35 [.s] [] (OSh.plain (.agg [.b, .i IntKind.i64, .s]) []) (fun x e => match_text_v n x.1) (inst 12 [.agg [.s, .b, .i IntKind.i64, .s], .agg [.b, .i IntKind.i64, .s], .sl [Kd.s, Kd.b, Kd.i IntKind.i64, Kd.s]] [] (OSh.plain (.tup [.slt [Kd.s, Kd.b, Kd.i IntKind.i64, Kd.s] 0, .b]) []) (fun x e => match_Unify_v n x.1.1 x.1.2.1 x.1.2.2.1 x.1.2.2.2.1 x.2.1.1 x.2.1.2.1 x.2.1.2.2.1 x.2.2.1.1 x.2.2.1.2) Spec.none)))
theorem match_Literal_mz_σok (n : Nat) : SpecOk Try.prog (match_Literal_mz_σ n) := (inst_ok (fun x e y h => match_or_c n x.1.1 x.1.2.1 x.1.2.2.1 x.1.2.2.2.1 x.2.1.1 x.2.1.2.1 x.2.1.2.2.1 x.2.1.2.2.2.1 y h) (inst_ok (fun x e y h => match_text_c n x.1 y h) (inst_ok (fun x e y h => match_Unify_c n x.1.1 x.1.2.1 x.1.2.2.1 x.1.2.2.2.1 x.2.1.1 x.2.1.2.1 x.2.1.2.2.1 x.2.2.1.1 x.2.2.1.2 y h) (SpecOk.none _))))
noncomputable def match_Literal_mz_Φ (n : Nat) : Orc := with_ Try.prog (match_Literal_mz_σ n) [] n 0 [1000053]
noncomputable def match_Literal_mz_v (n : Nat) (s0 : ByteArray) (b1 : Bool) (j2 : Int) (s3 : ByteArray) (s4 : ByteArray) (b5 : Bool) (j6 : Int) (s7 : ByteArray) (s8 : ByteArray) (b9 : Bool) (r10 : Rows) (s11 : ByteArray) (b12 : Bool) (j13 : Int) (s14 : ByteArray) (s15 : ByteArray) (s16 : ByteArray) (s17 : ByteArray) (m18 : Nat) (m19 : Nat) (b20 : Bool) (r21 : Rows) (r22 : Rows) : Option (((Bool × Rows) × Bool × Unit) × (Rows × Unit) × Unit) :=
  DM.denFn tm (match_Literal_mz_Φ n) match_Literal_mz_lv n Try.f16 true [AV.agg [AV.dv (DV.val (Value.string s0)), AV.dv (DV.val (Value.bool b1)), AV.dv (DV.val (Value.int IntKind.i64 j2)), AV.dv (DV.val (Value.string s3))], AV.agg [AV.dv (DV.val (Value.string s4)), AV.dv (DV.val (Value.bool b5)), AV.dv (DV.val (Value.int IntKind.i64 j6)), AV.dv (DV.val (Value.string s7)), AV.dv (DV.val (Value.string s8)), AV.sl b9 [Kd.s, Kd.b, Kd.i IntKind.i64, Kd.s] r10 Right.no, AV.dv (DV.val (Value.string s11)), AV.dv (DV.val (Value.bool b12)), AV.dv (DV.val (Value.int IntKind.i64 j13)), AV.dv (DV.val (Value.string s14))], AV.agg [AV.dv (DV.val (Value.string s15)), AV.dv (DV.val (Value.string s16)), AV.dv (DV.val (Value.string s17)), AV.ms 1000 [Kd.b, Kd.i IntKind.i64, Kd.s] 0 m18 m19], AV.sl b20 [Kd.s, Kd.b, Kd.i IntKind.i64, Kd.s] r21 Right.no] [[AV.arr [Kd.b, Kd.i IntKind.i64, Kd.s] r22]] (OSh.chk (OSh.plain (.tup [.slt [Kd.s, Kd.b, Kd.i IntKind.i64, Kd.s] 0, .b]) [[.arr [Kd.b, Kd.i IntKind.i64, Kd.s]]]))
noncomputable def match_Literal_mz_l10 (n : Nat) (s0 : ByteArray) (b1 : Bool) (j2 : Int) (s3 : ByteArray) (s4 : ByteArray) (b5 : Bool) (j6 : Int) (s7 : ByteArray) (s8 : ByteArray) (b9 : Bool) (r10 : Rows) (s11 : ByteArray) (b12 : Bool) (j13 : Int) (s14 : ByteArray) (s15 : ByteArray) (s16 : ByteArray) (s17 : ByteArray) (m18 : Nat) (m19 : Nat) (b20 : Bool) (r21 : Rows) (r22 : Rows) (i0 : Nat) (b28 : Bool) (r29 : List (List DV)) (b30 : Bool) (j32 : Int) : Option (((Bool × Rows) × Bool × Unit) × (Rows × Unit) × Unit) :=
  DM.loopFn tm (match_Literal_mz_Φ n) match_Literal_mz_lv n Try.f16 true [[AV.arr [Kd.b, Kd.i IntKind.i64, Kd.s] r22]] (OSh.chk (OSh.plain (.tup [.slt [Kd.s, Kd.b, Kd.i IntKind.i64, Kd.s] 0, .b]) [[.arr [Kd.b, Kd.i IntKind.i64, Kd.s]]])) 10 [] i0 (St.mk [AV.junk, AV.junk, AV.junk, AV.sl b28 [Kd.s, Kd.b, Kd.i IntKind.i64, Kd.s] r29 (Right.tok 3), AV.junk, AV.junk, AV.pl 6 0, AV.junk, AV.junk, AV.junk, AV.dv (DV.val (Value.bool b30)), AV.junk, AV.junk, AV.junk, AV.junk, AV.junk, AV.junk, AV.junk, AV.junk, AV.junk, AV.junk, AV.junk, AV.junk, AV.junk, AV.junk, AV.junk, AV.junk, AV.junk, AV.junk, AV.junk, AV.junk, AV.junk, AV.junk, AV.junk, AV.junk, AV.junk, AV.junk, AV.junk, AV.junk, AV.junk, AV.junk, AV.junk, AV.junk, AV.junk, AV.junk, AV.junk, AV.junk, AV.junk, AV.junk, AV.junk, AV.junk, AV.junk, AV.junk, AV.junk, AV.junk, AV.junk, AV.junk, AV.junk, AV.junk, AV.junk, AV.junk, AV.sl b9 [Kd.s, Kd.b, Kd.i IntKind.i64, Kd.s] r10 Right.no, AV.dv (DV.val (Value.int IntKind.i64 (↑(List.length r10) : Int))), AV.dv (DV.val (Value.int IntKind.i64 j32)), AV.junk, AV.junk, AV.junk, AV.junk, AV.junk, AV.junk, AV.junk, AV.junk, AV.junk, AV.junk, AV.junk, AV.junk, AV.junk, AV.junk, AV.junk, AV.junk, AV.junk, AV.junk, AV.junk, AV.junk, AV.junk] [(1000, [AV.arr [Kd.b, Kd.i IntKind.i64, Kd.s] r22]), (6, [AV.dv (DV.val (Value.string s15)), AV.dv (DV.val (Value.string s16)), AV.dv (DV.val (Value.string s17)), AV.ms 1000 [Kd.b, Kd.i IntKind.i64, Kd.s] 0 m18 m19])])
theorem match_Literal_mz_s10 (n : Nat) (s0 : ByteArray) (b1 : Bool) (j2 : Int) (s3 : ByteArray) (s4 : ByteArray) (b5 : Bool) (j6 : Int) (s7 : ByteArray) (s8 : ByteArray) (b9 : Bool) (r10 : Rows) (s11 : ByteArray) (b12 : Bool) (j13 : Int) (s14 : ByteArray) (s15 : ByteArray) (s16 : ByteArray) (s17 : ByteArray) (m18 : Nat) (m19 : Nat) (b20 : Bool) (r21 : Rows) (r22 : Rows) (i0 : Nat) (b28 : Bool) (r29 : List (List DV)) (b30 : Bool) (j32 : Int) : match_Literal_mz_l10 n s0 b1 j2 s3 s4 b5 j6 s7 s8 b9 r10 s11 b12 j13 s14 s15 s16 s17 m18 m19 b20 r21 r22 (i0 + 1) b28 r29 b30 j32 =
  bif decide (j32 < (↑(List.length r10) : Int)) then
    if 0 ≤ j32 then
      if j32 < (↑(List.length r10) : Int) then
        bif !b30 then
          bif !b30 then
            some (((true, []), (false, ())), ((r22, ()), ()))
          else some (((b28, r29), (true, ())), ((r22, ()), ()))
        else if 0 ≤ j32 then
          if j32 < (↑m18 : Int) then
            if 0 + Int.toNat j32 < List.length r22 then
              obind (match_Unify_v n (Row.S (List.getD r10 (Int.toNat j32) []) 0) (Row.B (List.getD r10 (Int.toNat j32) []) 1) (Row.I (List.getD r10 (Int.toNat j32) []) 2) (Row.S (List.getD r10 (Int.toNat j32) []) 3) (Row.B (List.getD r22 (0 + Int.toNat j32) []) 0) (Row.I (List.getD r22 (0 + Int.toNat j32) []) 1) (Row.S (List.getD r22 (0 + Int.toNat j32) []) 2) b28 r29) fun y33 =>
              match_Literal_mz_l10 n s0 b1 j2 s3 s4 b5 j6 s7 s8 b9 r10 s11 b12 j13 s14 s15 s16 s17 m18 m19 b20 r21 r22 i0 y33.fst.fst.fst y33.fst.fst.snd y33.fst.snd.fst (IntKind.wrap IntKind.i64 (j32 + 1))
            else none
          else none
        else none
      else none
    else none
  else bif !b30 then
    some (((true, []), (false, ())), ((r22, ()), ()))
  else some (((b28, r29), (true, ())), ((r22, ()), ())) := by kernel_rfl
theorem match_Literal_mz_e (n : Nat) (s0 : ByteArray) (b1 : Bool) (j2 : Int) (s3 : ByteArray) (s4 : ByteArray) (b5 : Bool) (j6 : Int) (s7 : ByteArray) (s8 : ByteArray) (b9 : Bool) (r10 : Rows) (s11 : ByteArray) (b12 : Bool) (j13 : Int) (s14 : ByteArray) (s15 : ByteArray) (s16 : ByteArray) (s17 : ByteArray) (m18 : Nat) (m19 : Nat) (b20 : Bool) (r21 : Rows) (r22 : Rows) : match_Literal_mz_v n s0 b1 j2 s3 s4 b5 j6 s7 s8 b9 r10 s11 b12 j13 s14 s15 s16 s17 m18 m19 b20 r21 r22 =
  bif !s8 == s17 then
    some (((true, []), (false, ())), ((r22, ()), ()))
  else bif (↑(List.length r10) : Int) != (↑m18 : Int) then
    some (((true, []), (false, ())), ((r22, ()), ()))
  else obind (match_or_v n s11 b12 j13 s14 s0 b1 j2 s3) fun y23 =>
  obind (match_text_v n s15) fun y24 =>
  obind (match_Unify_v n y23.fst.fst y23.fst.snd.fst y23.fst.snd.snd.fst y23.fst.snd.snd.snd.fst y24.fst.fst y24.fst.snd.fst y24.fst.snd.snd.fst b20 r21) fun y25 =>
  bif !y25.fst.snd.fst then
    some (((true, []), (false, ())), ((r22, ()), ()))
  else bif s4 == ByteArray.mk #[] && (b5 == false && (j6 == 0 && (s7 == ByteArray.mk #[] && true))) then
    match_Literal_mz_l10 n s0 b1 j2 s3 s4 b5 j6 s7 s8 b9 r10 s11 b12 j13 s14 s15 s16 s17 m18 m19 b20 r21 r22 n y25.fst.fst.fst y25.fst.fst.snd (s16 == s15) 0
  else obind (match_text_v n s16) fun y26 =>
  obind (match_Unify_v n s4 b5 j6 s7 y26.fst.fst y26.fst.snd.fst y26.fst.snd.snd.fst y25.fst.fst.fst y25.fst.fst.snd) fun y27 =>
  match_Literal_mz_l10 n s0 b1 j2 s3 s4 b5 j6 s7 s8 b9 r10 s11 b12 j13 s14 s15 s16 s17 m18 m19 b20 r21 r22 n y27.fst.fst.fst y27.fst.fst.snd y27.fst.snd.fst 0 := by kernel_rfl
theorem match_Literal_mz_c (n : Nat) (s0 : ByteArray) (b1 : Bool) (j2 : Int) (s3 : ByteArray) (s4 : ByteArray) (b5 : Bool) (j6 : Int) (s7 : ByteArray) (s8 : ByteArray) (b9 : Bool) (r10 : Rows) (s11 : ByteArray) (b12 : Bool) (j13 : Int) (s14 : ByteArray) (s15 : ByteArray) (s16 : ByteArray) (s17 : ByteArray) (m18 : Nat) (m19 : Nat) (b20 : Bool) (r21 : Rows) (r22 : Rows) (y : ((Bool × Rows) × Bool × Unit) × (Rows × Unit) × Unit) (h : match_Literal_mz_v n s0 b1 j2 s3 s4 b5 j6 s7 s8 b9 r10 s11 b12 j13 s14 s15 s16 s17 m18 m19 b20 r21 r22 = some y) : Contract Try.prog 16 [AV.agg [AV.dv (DV.val (Value.string s0)), AV.dv (DV.val (Value.bool b1)), AV.dv (DV.val (Value.int IntKind.i64 j2)), AV.dv (DV.val (Value.string s3))], AV.agg [AV.dv (DV.val (Value.string s4)), AV.dv (DV.val (Value.bool b5)), AV.dv (DV.val (Value.int IntKind.i64 j6)), AV.dv (DV.val (Value.string s7)), AV.dv (DV.val (Value.string s8)), AV.sl b9 [Kd.s, Kd.b, Kd.i IntKind.i64, Kd.s] r10 Right.no, AV.dv (DV.val (Value.string s11)), AV.dv (DV.val (Value.bool b12)), AV.dv (DV.val (Value.int IntKind.i64 j13)), AV.dv (DV.val (Value.string s14))], AV.agg [AV.dv (DV.val (Value.string s15)), AV.dv (DV.val (Value.string s16)), AV.dv (DV.val (Value.string s17)), AV.ms 1000 [Kd.b, Kd.i IntKind.i64, Kd.s] 0 m18 m19], AV.sl b20 [Kd.s, Kd.b, Kd.i IntKind.i64, Kd.s] r21 Right.no] [[AV.arr [Kd.b, Kd.i IntKind.i64, Kd.s] r22]] (OSh.enc (OSh.plain (.tup [.slt [Kd.s, Kd.b, Kd.i IntKind.i64, Kd.s] 0, .b]) [[.arr [Kd.b, Kd.i IntKind.i64, Kd.s]]]) y) :=
  auto_okM tm_std (with_ok mixed (by kernel_rfl) (match_Literal_mz_σok n) n 0 [1000053]) (with_pick mixed (by kernel_rfl) (match_Literal_mz_σok n) n 0 [1000053]) mixed Try.func16 (by decide) (o := (OSh.plain (.tup [.slt [Kd.s, Kd.b, Kd.i IntKind.i64, Kd.s] 0, .b]) [[.arr [Kd.b, Kd.i IntKind.i64, Kd.s]]])) h
/-! ref11_Like: function 14 -/
def ref11_Like_lv : Live := [(4, [0, 1, 5], [1000, 1001, 1002, 1003])]
noncomputable def ref11_Like_σ (n : Nat) : Spec := Spec.none
theorem ref11_Like_σok (n : Nat) : SpecOk Try.prog (ref11_Like_σ n) := (SpecOk.none _)
noncomputable def ref11_Like_Φ (n : Nat) : Orc := with_ Try.prog (ref11_Like_σ n) [] n 0 [1000053]
noncomputable def ref11_Like_v (n : Nat) (b0 : Bool) (r1 : Rows) (b2 : Bool) (r3 : Rows) : Option (Bool × Unit) :=
  DM.denFn tm (ref11_Like_Φ n) ref11_Like_lv n Try.f14 false [AV.sl b0 [Kd.s, Kd.b, Kd.i IntKind.i64, Kd.s] r1 Right.no, AV.sl b2 [Kd.s, Kd.b, Kd.i IntKind.i64, Kd.s] r3 Right.no] [] (OSh.chk (OSh.plain (.b) []))
noncomputable def ref11_Like_l4 (n : Nat) (b0 : Bool) (r1 : Rows) (b2 : Bool) (r3 : Rows) (i0 : Nat) (j4 : Int) : Option (Bool × Unit) :=
  DM.loopFn tm (ref11_Like_Φ n) ref11_Like_lv n Try.f14 false [] (OSh.chk (OSh.plain (.b) [])) 4 [] i0 (St.mk [AV.sl b0 [Kd.s, Kd.b, Kd.i IntKind.i64, Kd.s] r1 Right.no, AV.sl b2 [Kd.s, Kd.b, Kd.i IntKind.i64, Kd.s] r3 Right.no, AV.junk, AV.junk, AV.junk, AV.dv (DV.val (Value.int IntKind.i64 j4)), AV.junk, AV.junk, AV.junk, AV.junk, AV.junk, AV.junk, AV.junk, AV.junk, AV.junk, AV.junk, AV.junk, AV.junk, AV.junk, AV.junk, AV.junk, AV.junk, AV.junk, AV.junk, AV.junk, AV.junk] [])
theorem ref11_Like_s4 (n : Nat) (b0 : Bool) (r1 : Rows) (b2 : Bool) (r3 : Rows) (i0 : Nat) (j4 : Int) : ref11_Like_l4 n b0 r1 b2 r3 (i0 + 1) j4 =
  bif decide (j4 < (↑(List.length r1) : Int)) then
    if 0 ≤ j4 then
      if j4 < (↑(List.length r1) : Int) then
        if 0 ≤ j4 then
          if j4 < (↑(List.length r3) : Int) then
            bif !(Row.S (List.getD r1 (Int.toNat j4) []) 0 == Row.S (List.getD r3 (Int.toNat j4) []) 0 && (Row.B (List.getD r1 (Int.toNat j4) []) 1 == Row.B (List.getD r3 (Int.toNat j4) []) 1 && (Row.I (List.getD r1 (Int.toNat j4) []) 2 == Row.I (List.getD r3 (Int.toNat j4) []) 2 && (Row.S (List.getD r1 (Int.toNat j4) []) 3 == Row.S (List.getD r3 (Int.toNat j4) []) 3 && true)))) then
              some (false, ())
            else ref11_Like_l4 n b0 r1 b2 r3 i0 (IntKind.wrap IntKind.i64 (j4 + 1))
          else none
        else none
      else none
    else none
  else some (true, ()) := by kernel_rfl
theorem ref11_Like_e (n : Nat) (b0 : Bool) (r1 : Rows) (b2 : Bool) (r3 : Rows) : ref11_Like_v n b0 r1 b2 r3 =
  bif (↑(List.length r1) : Int) != (↑(List.length r3) : Int) then
    some (false, ())
  else ref11_Like_l4 n b0 r1 b2 r3 n 0 := by kernel_rfl
theorem ref11_Like_c (n : Nat) (b0 : Bool) (r1 : Rows) (b2 : Bool) (r3 : Rows) (y : Bool × Unit) (h : ref11_Like_v n b0 r1 b2 r3 = some y) : Contract Try.prog 14 [AV.sl b0 [Kd.s, Kd.b, Kd.i IntKind.i64, Kd.s] r1 Right.no, AV.sl b2 [Kd.s, Kd.b, Kd.i IntKind.i64, Kd.s] r3 Right.no] [] (OSh.enc (OSh.plain (.b) []) y) :=
  auto_okM tm_std (with_ok mixed (by kernel_rfl) (ref11_Like_σok n) n 0 [1000053]) (with_pick mixed (by kernel_rfl) (ref11_Like_σok n) n 0 [1000053]) mixed Try.func14 (by decide) (o := (OSh.plain (.b) [])) h
/-! law11_live: function 9 -/
def law11_live_lv : Live := []
noncomputable def law11_live_σ (n : Nat) : Spec := (inst 16 [.agg [.s, .b, .i IntKind.i64, .s], .agg [.s, .b, .i IntKind.i64, .s, .s, .sl [Kd.s, Kd.b, Kd.i IntKind.i64, Kd.s], .s, .b, .i IntKind.i64, .s], .agg [.s, .s, .s, .ms0 1000 [Kd.b, Kd.i IntKind.i64, Kd.s]], .sl [Kd.s, Kd.b, Kd.i IntKind.i64, Kd.s]] [[.arr [Kd.b, Kd.i IntKind.i64, Kd.s]]] (OSh.plain (.tup [.slt [Kd.s, Kd.b, Kd.i IntKind.i64, Kd.s] 0, .b]) [[.arr [Kd.b, Kd.i IntKind.i64, Kd.s]]]) (fun x e => match_Literal_mz_v n x.1.1 x.1.2.1 x.1.2.2.1 x.1.2.2.2.1 x.2.1.1 x.2.1.2.1 x.2.1.2.2.1 x.2.1.2.2.2.1 x.2.1.2.2.2.2.1 x.2.1.2.2.2.2.2.1.1 x.2.1.2.2.2.2.2.1.2 x.2.1.2.2.2.2.2.2.1 x.2.1.2.2.2.2.2.2.2.1 x.2.1.2.2.2.2.2.2.2.2.1 x.2.1.2.2.2.2.2.2.2.2.2.1 x.2.2.1.1 x.2.2.1.2.1 x.2.2.1.2.2.1 x.2.2.1.2.2.2.1.1 x.2.2.1.2.2.2.1.2 x.2.2.2.1.1 x.2.2.2.1.2 e.1.1) (inst 14 [.sl [Kd.s, Kd.b, Kd.i IntKind.i64, Kd.s], .sl [Kd.s, Kd.b, Kd.i IntKind.i64, Kd.s]] [] (OSh.plain (.b) []) (fun x e => ref11_Like_v n x.1.1 x.1.2 x.2.1.1 x.2.1.2) Spec.none))
theorem law11_live_σok (n : Nat) : SpecOk Try.prog (law11_live_σ n) := (inst_ok (fun x e y h => match_Literal_mz_c n x.1.1 x.1.2.1 x.1.2.2.1 x.1.2.2.2.1 x.2.1.1 x.2.1.2.1 x.2.1.2.2.1 x.2.1.2.2.2.1 x.2.1.2.2.2.2.1 x.2.1.2.2.2.2.2.1.1 x.2.1.2.2.2.2.2.1.2 x.2.1.2.2.2.2.2.2.1 x.2.1.2.2.2.2.2.2.2.1 x.2.1.2.2.2.2.2.2.2.2.1 x.2.1.2.2.2.2.2.2.2.2.2.1 x.2.2.1.1 x.2.2.1.2.1 x.2.2.1.2.2.1 x.2.2.1.2.2.2.1.1 x.2.2.1.2.2.2.1.2 x.2.2.2.1.1 x.2.2.2.1.2 e.1.1 y h) (inst_ok (fun x e y h => ref11_Like_c n x.1.1 x.1.2 x.2.1.1 x.2.1.2 y h) (SpecOk.none _)))
noncomputable def law11_live_Φ (n : Nat) : Orc := with_ Try.prog (law11_live_σ n) [] n 0 [12, 1000053]
noncomputable def law11_live_v (n : Nat) : Option (Bool × Unit) :=
  DM.denFn tm (law11_live_Φ n) law11_live_lv n Try.f9 false [] [] (OSh.chk (OSh.plain (.b) []))
theorem law11_live_e (n : Nat) : law11_live_v n =
  obind (match_Literal_mz_v n (ByteArray.mk #[65]) false 0 (ByteArray.mk #[]) (ByteArray.mk #[88]) false 0 (ByteArray.mk #[]) (ByteArray.mk #[112]) false ([[DV.val (Value.string (ByteArray.mk #[88])), DV.val (Value.bool false), DV.val (Value.int IntKind.i64 0), DV.val (Value.string (ByteArray.mk #[]))]]) (ByteArray.mk #[]) false 0 (ByteArray.mk #[]) (ByteArray.mk #[97]) (ByteArray.mk #[98]) (ByteArray.mk #[112]) 1 1 true [] ([[DV.val (Value.bool false), DV.val (Value.int IntKind.i64 0), DV.val (Value.string (ByteArray.mk #[98]))]])) fun y0 =>
  if 0 < List.length y0.snd.fst.fst then
    obind (match_Literal_mz_v n (ByteArray.mk #[65]) false 0 (ByteArray.mk #[]) (ByteArray.mk #[88]) false 0 (ByteArray.mk #[]) (ByteArray.mk #[112]) false ([[DV.val (Value.string (ByteArray.mk #[88])), DV.val (Value.bool false), DV.val (Value.int IntKind.i64 0), DV.val (Value.string (ByteArray.mk #[]))]]) (ByteArray.mk #[]) false 0 (ByteArray.mk #[]) (ByteArray.mk #[97]) (ByteArray.mk #[98]) (ByteArray.mk #[112]) 1 1 true [] (List.set y0.snd.fst.fst 0 (spliceD (List.getD y0.snd.fst.fst 0 []) 2 [DV.val (Value.string (ByteArray.mk #[99]))]))) fun y1 =>
    bif y0.fst.snd.fst then
      bif !y1.fst.snd.fst then
        obind (ref11_Like_v n y0.fst.fst.fst y0.fst.fst.snd false ([[DV.val (Value.string (ByteArray.mk #[65])), DV.val (Value.bool false), DV.val (Value.int IntKind.i64 0), DV.val (Value.string (ByteArray.mk #[97]))], [DV.val (Value.string (ByteArray.mk #[88])), DV.val (Value.bool false), DV.val (Value.int IntKind.i64 0), DV.val (Value.string (ByteArray.mk #[98]))]])) fun y2 =>
        some (y2.fst, ())
      else some (false, ())
    else some (false, ())
  else none := by kernel_rfl
theorem law11_live_c (n : Nat) (y : Bool × Unit) (h : law11_live_v n = some y) : Contract Try.prog 9 [] [] (OSh.enc (OSh.plain (.b) []) y) :=
  auto_okM tm_std (with_ok mixed (by kernel_rfl) (law11_live_σok n) n 0 [12, 1000053]) (with_pick mixed (by kernel_rfl) (law11_live_σok n) n 0 [12, 1000053]) mixed Try.func9 (by decide) (o := (OSh.plain (.b) [])) h
/-! match_name: function 39 -/
def match_name_lv : Live := []
noncomputable def match_name_σ (n : Nat) : Spec := (inst 10 [.agg [.s, .b, .i IntKind.i64, .s], .sl [Kd.s, Kd.b, Kd.i IntKind.i64, Kd.s]] [] (OSh.plain (.tup [.agg [.b, .i IntKind.i64, .s], .b]) []) (fun x e => match_Value_v n x.1.1 x.1.2.1 x.1.2.2.1 x.1.2.2.2.1 x.2.1.1 x.2.1.2) (inst 35 [.s] [] (OSh.plain (.agg [.b, .i IntKind.i64, .s]) []) (fun x e => match_text_v n x.1) Spec.none))
theorem match_name_σok (n : Nat) : SpecOk Try.prog (match_name_σ n) := (inst_ok (fun x e y h => match_Value_c n x.1.1 x.1.2.1 x.1.2.2.1 x.1.2.2.2.1 x.2.1.1 x.2.1.2 y h) (inst_ok (fun x e y h => match_text_c n x.1 y h) (SpecOk.none _)))
noncomputable def match_name_Φ (n : Nat) : Orc := with_ Try.prog (match_name_σ n) [] n 0 [1000053]
noncomputable def match_name_v (n : Nat) (s0 : ByteArray) (b1 : Bool) (j2 : Int) (s3 : ByteArray) (b4 : Bool) (r5 : Rows) : Option ((ByteArray × Bool × Unit) × Unit) :=
  DM.denFn tm (match_name_Φ n) match_name_lv n Try.f39 false [AV.agg [AV.dv (DV.val (Value.string s0)), AV.dv (DV.val (Value.bool b1)), AV.dv (DV.val (Value.int IntKind.i64 j2)), AV.dv (DV.val (Value.string s3))], AV.sl b4 [Kd.s, Kd.b, Kd.i IntKind.i64, Kd.s] r5 Right.no] [] (OSh.chk (OSh.plain (.tup [.s, .b]) []))
theorem match_name_e (n : Nat) (s0 : ByteArray) (b1 : Bool) (j2 : Int) (s3 : ByteArray) (b4 : Bool) (r5 : Rows) : match_name_v n s0 b1 j2 s3 b4 r5 =
  obind (match_Value_v n s0 b1 j2 s3 b4 r5) fun y6 =>
  bif y6.fst.snd.fst then
    obind (match_text_v n y6.fst.fst.snd.snd.fst) fun y7 =>
    some ((y6.fst.fst.snd.snd.fst, (y6.fst.fst.fst == y7.fst.fst && (y6.fst.fst.snd.fst == y7.fst.snd.fst && (y6.fst.fst.snd.snd.fst == y7.fst.snd.snd.fst && true)), ())), ())
  else some ((y6.fst.fst.snd.snd.fst, (false, ())), ()) := by kernel_rfl
theorem match_name_c (n : Nat) (s0 : ByteArray) (b1 : Bool) (j2 : Int) (s3 : ByteArray) (b4 : Bool) (r5 : Rows) (y : (ByteArray × Bool × Unit) × Unit) (h : match_name_v n s0 b1 j2 s3 b4 r5 = some y) : Contract Try.prog 39 [AV.agg [AV.dv (DV.val (Value.string s0)), AV.dv (DV.val (Value.bool b1)), AV.dv (DV.val (Value.int IntKind.i64 j2)), AV.dv (DV.val (Value.string s3))], AV.sl b4 [Kd.s, Kd.b, Kd.i IntKind.i64, Kd.s] r5 Right.no] [] (OSh.enc (OSh.plain (.tup [.s, .b]) []) y) :=
  auto_okM tm_std (with_ok mixed (by kernel_rfl) (match_name_σok n) n 0 [1000053]) (with_pick mixed (by kernel_rfl) (match_name_σok n) n 0 [1000053]) mixed Try.func39 (by decide) (o := (OSh.plain (.tup [.s, .b]) [])) h
/-! match_values: function 40 -/
def match_values_lv : Live := [(3, [1, 6, 11, 12, 13], [1000, 1001, 1002, 1003])]
noncomputable def match_values_σ (n : Nat) : Spec := (inst 10 [.agg [.s, .b, .i IntKind.i64, .s], .sl [Kd.s, Kd.b, Kd.i IntKind.i64, Kd.s]] [] (OSh.plain (.tup [.agg [.b, .i IntKind.i64, .s], .b]) []) (fun x e => match_Value_v n x.1.1 x.1.2.1 x.1.2.2.1 x.1.2.2.2.1 x.2.1.1 x.2.1.2) Spec.none)
theorem match_values_σok (n : Nat) : SpecOk Try.prog (match_values_σ n) := (inst_ok (fun x e y h => match_Value_c n x.1.1 x.1.2.1 x.1.2.2.1 x.1.2.2.2.1 x.2.1.1 x.2.1.2 y h) (SpecOk.none _))
noncomputable def match_values_Φ (n : Nat) : Orc := with_ Try.prog (match_values_σ n) [] n 0 [1000053]
noncomputable def match_values_v (n : Nat) (b0 : Bool) (r1 : Rows) (b2 : Bool) (r3 : Rows) : Option (((Bool × Rows) × Bool × Unit) × Unit) :=
  DM.denFn tm (match_values_Φ n) match_values_lv n Try.f40 true [AV.sl b0 [Kd.s, Kd.b, Kd.i IntKind.i64, Kd.s] r1 Right.no, AV.sl b2 [Kd.s, Kd.b, Kd.i IntKind.i64, Kd.s] r3 Right.no] [] (OSh.chk (OSh.plain (.tup [.slt [Kd.b, Kd.i IntKind.i64, Kd.s] 0, .b]) []))
noncomputable def match_values_l3 (n : Nat) (b0 : Bool) (r1 : Rows) (b2 : Bool) (r3 : Rows) (i0 : Nat) (b5 : Bool) (r6 : List (List DV)) (j7 : Int) : Option (((Bool × Rows) × Bool × Unit) × Unit) :=
  DM.loopFn tm (match_values_Φ n) match_values_lv n Try.f40 true [] (OSh.chk (OSh.plain (.tup [.slt [Kd.b, Kd.i IntKind.i64, Kd.s] 0, .b]) [])) 3 [] i0 (St.mk [AV.junk, AV.sl b2 [Kd.s, Kd.b, Kd.i IntKind.i64, Kd.s] r3 Right.no, AV.junk, AV.junk, AV.junk, AV.junk, AV.sl b5 [Kd.b, Kd.i IntKind.i64, Kd.s] r6 (Right.tok 6), AV.junk, AV.junk, AV.junk, AV.junk, AV.sl b0 [Kd.s, Kd.b, Kd.i IntKind.i64, Kd.s] r1 Right.no, AV.dv (DV.val (Value.int IntKind.i64 (↑(List.length r1) : Int))), AV.dv (DV.val (Value.int IntKind.i64 j7)), AV.junk, AV.junk, AV.junk, AV.junk, AV.junk, AV.junk, AV.junk, AV.junk, AV.junk, AV.junk, AV.junk, AV.junk, AV.junk, AV.junk, AV.junk, AV.junk, AV.junk] [])
theorem match_values_s3 (n : Nat) (b0 : Bool) (r1 : Rows) (b2 : Bool) (r3 : Rows) (i0 : Nat) (b5 : Bool) (r6 : List (List DV)) (j7 : Int) : match_values_l3 n b0 r1 b2 r3 (i0 + 1) b5 r6 j7 =
  bif decide (j7 < (↑(List.length r1) : Int)) then
    if 0 ≤ j7 then
      if j7 < (↑(List.length r1) : Int) then
        obind (match_Value_v n (Row.S (List.getD r1 (Int.toNat j7) []) 0) (Row.B (List.getD r1 (Int.toNat j7) []) 1) (Row.I (List.getD r1 (Int.toNat j7) []) 2) (Row.S (List.getD r1 (Int.toNat j7) []) 3) b2 r3) fun y8 =>
        bif !y8.fst.snd.fst then
          some (((true, []), (false, ())), ())
        else if (List.length r6 + List.length [[DV.val (Value.bool y8.fst.fst.fst), DV.val (Value.int IntKind.i64 y8.fst.fst.snd.fst), DV.val (Value.string y8.fst.fst.snd.snd.fst)]]) * 32 ≤ 140737488355328 then
          match_values_l3 n b0 r1 b2 r3 i0 (b5 && List.isEmpty [[DV.val (Value.bool y8.fst.fst.fst), DV.val (Value.int IntKind.i64 y8.fst.fst.snd.fst), DV.val (Value.string y8.fst.fst.snd.snd.fst)]]) (appX r6 [[DV.val (Value.bool y8.fst.fst.fst), DV.val (Value.int IntKind.i64 y8.fst.fst.snd.fst), DV.val (Value.string y8.fst.fst.snd.snd.fst)]]) (IntKind.wrap IntKind.i64 (j7 + 1))
        else none
      else none
    else none
  else some (((b5, r6), (true, ())), ()) := by kernel_rfl
theorem match_values_e (n : Nat) (b0 : Bool) (r1 : Rows) (b2 : Bool) (r3 : Rows) : match_values_v n b0 r1 b2 r3 =
  match_values_l3 n b0 r1 b2 r3 n true [] 0 := by kernel_rfl
theorem match_values_c (n : Nat) (b0 : Bool) (r1 : Rows) (b2 : Bool) (r3 : Rows) (y : ((Bool × Rows) × Bool × Unit) × Unit) (h : match_values_v n b0 r1 b2 r3 = some y) : Contract Try.prog 40 [AV.sl b0 [Kd.s, Kd.b, Kd.i IntKind.i64, Kd.s] r1 Right.no, AV.sl b2 [Kd.s, Kd.b, Kd.i IntKind.i64, Kd.s] r3 Right.no] [] (OSh.enc (OSh.plain (.tup [.slt [Kd.b, Kd.i IntKind.i64, Kd.s] 0, .b]) []) y) :=
  auto_okM tm_std (with_ok mixed (by kernel_rfl) (match_values_σok n) n 0 [1000053]) (with_pick mixed (by kernel_rfl) (match_values_σok n) n 0 [1000053]) mixed Try.func40 (by decide) (o := (OSh.plain (.tup [.slt [Kd.b, Kd.i IntKind.i64, Kd.s] 0, .b]) [])) h
/-! match_Head: function 19 -/
def match_Head_lv : Live := []
noncomputable def match_Head_σ (n : Nat) : Spec := (inst 39 [.agg [.s, .b, .i IntKind.i64, .s], .sl [Kd.s, Kd.b, Kd.i IntKind.i64, Kd.s]] [] (OSh.plain (.tup [.s, .b]) []) (fun x e => match_name_v n x.1.1 x.1.2.1 x.1.2.2.1 x.1.2.2.2.1 x.2.1.1 x.2.1.2) (inst 34 [.agg [.s, .b, .i IntKind.i64, .s], .agg [.s, .b, .i IntKind.i64, .s]] [] (OSh.plain (.agg [.s, .b, .i IntKind.i64, .s]) []) (fun x e => match_or_v n x.1.1 x.1.2.1 x.1.2.2.1 x.1.2.2.2.1 x.2.1.1 x.2.1.2.1 x.2.1.2.2.1 x.2.1.2.2.2.1) (inst 40 [.sl [Kd.s, Kd.b, Kd.i IntKind.i64, Kd.s], .sl [Kd.s, Kd.b, Kd.i IntKind.i64, Kd.s]] [] (OSh.plain (.tup [.slt [Kd.b, Kd.i IntKind.i64, Kd.s] 0, .b]) []) (fun x e => match_values_v n x.1.1 x.1.2 x.2.1.1 x.2.1.2) Spec.none)))
theorem match_Head_σok (n : Nat) : SpecOk Try.prog (match_Head_σ n) := (inst_ok (fun x e y h => match_name_c n x.1.1 x.1.2.1 x.1.2.2.1 x.1.2.2.2.1 x.2.1.1 x.2.1.2 y h) (inst_ok (fun x e y h => match_or_c n x.1.1 x.1.2.1 x.1.2.2.1 x.1.2.2.2.1 x.2.1.1 x.2.1.2.1 x.2.1.2.2.1 x.2.1.2.2.2.1 y h) (inst_ok (fun x e y h => match_values_c n x.1.1 x.1.2 x.2.1.1 x.2.1.2 y h) (SpecOk.none _))))
noncomputable def match_Head_Φ (n : Nat) : Orc := with_ Try.prog (match_Head_σ n) [] n 0 [1000053]
noncomputable def match_Head_v (n : Nat) (s0 : ByteArray) (b1 : Bool) (j2 : Int) (s3 : ByteArray) (s4 : ByteArray) (b5 : Bool) (r6 : Rows) (s7 : ByteArray) (b8 : Bool) (j9 : Int) (s10 : ByteArray) (b11 : Bool) (r12 : Rows) (b13 : Bool) (r14 : Rows) : Option (((ByteArray × ByteArray × ByteArray × (Bool × Rows) × Unit) × Bool × Unit) × Unit) :=
  DM.denFn tm (match_Head_Φ n) match_Head_lv n Try.f19 false [AV.agg [AV.dv (DV.val (Value.string s0)), AV.dv (DV.val (Value.bool b1)), AV.dv (DV.val (Value.int IntKind.i64 j2)), AV.dv (DV.val (Value.string s3)), AV.dv (DV.val (Value.string s4)), AV.sl b5 [Kd.s, Kd.b, Kd.i IntKind.i64, Kd.s] r6 Right.no, AV.dv (DV.val (Value.string s7)), AV.dv (DV.val (Value.bool b8)), AV.dv (DV.val (Value.int IntKind.i64 j9)), AV.dv (DV.val (Value.string s10)), AV.sl b11 [Kd.s, Kd.b, Kd.i IntKind.i64, Kd.s, Kd.s, Kd.sl [Kd.s, Kd.b, Kd.i IntKind.i64, Kd.s], Kd.s, Kd.b, Kd.i IntKind.i64, Kd.s] r12 Right.no], AV.sl b13 [Kd.s, Kd.b, Kd.i IntKind.i64, Kd.s] r14 Right.no] [] (OSh.chk (OSh.plain (.tup [.agg [.s, .s, .s, .sl [Kd.b, Kd.i IntKind.i64, Kd.s]], .b]) []))
theorem match_Head_e (n : Nat) (s0 : ByteArray) (b1 : Bool) (j2 : Int) (s3 : ByteArray) (s4 : ByteArray) (b5 : Bool) (r6 : Rows) (s7 : ByteArray) (b8 : Bool) (j9 : Int) (s10 : ByteArray) (b11 : Bool) (r12 : Rows) (b13 : Bool) (r14 : Rows) : match_Head_v n s0 b1 j2 s3 s4 b5 r6 s7 b8 j9 s10 b11 r12 b13 r14 =
  obind (match_name_v n s0 b1 j2 s3 b13 r14) fun y15 =>
  obind (match_or_v n s7 b8 j9 s10 s0 b1 j2 s3) fun y16 =>
  obind (match_name_v n y16.fst.fst y16.fst.snd.fst y16.fst.snd.snd.fst y16.fst.snd.snd.snd.fst b13 r14) fun y17 =>
  obind (match_values_v n b5 r6 b13 r14) fun y18 =>
  bif !y15.fst.snd.fst then
    some (((ByteArray.mk #[], (ByteArray.mk #[], (ByteArray.mk #[], ((true, []), ())))), (false, ())), ())
  else bif !y17.fst.snd.fst then
    some (((ByteArray.mk #[], (ByteArray.mk #[], (ByteArray.mk #[], ((true, []), ())))), (false, ())), ())
  else bif !y18.fst.snd.fst then
    some (((ByteArray.mk #[], (ByteArray.mk #[], (ByteArray.mk #[], ((true, []), ())))), (false, ())), ())
  else some (((y17.fst.fst, (y15.fst.fst, (s4, ((y18.fst.fst.fst, y18.fst.fst.snd), ())))), (true, ())), ()) := by kernel_rfl
theorem match_Head_c (n : Nat) (s0 : ByteArray) (b1 : Bool) (j2 : Int) (s3 : ByteArray) (s4 : ByteArray) (b5 : Bool) (r6 : Rows) (s7 : ByteArray) (b8 : Bool) (j9 : Int) (s10 : ByteArray) (b11 : Bool) (r12 : Rows) (b13 : Bool) (r14 : Rows) (y : ((ByteArray × ByteArray × ByteArray × (Bool × Rows) × Unit) × Bool × Unit) × Unit) (h : match_Head_v n s0 b1 j2 s3 s4 b5 r6 s7 b8 j9 s10 b11 r12 b13 r14 = some y) : Contract Try.prog 19 [AV.agg [AV.dv (DV.val (Value.string s0)), AV.dv (DV.val (Value.bool b1)), AV.dv (DV.val (Value.int IntKind.i64 j2)), AV.dv (DV.val (Value.string s3)), AV.dv (DV.val (Value.string s4)), AV.sl b5 [Kd.s, Kd.b, Kd.i IntKind.i64, Kd.s] r6 Right.no, AV.dv (DV.val (Value.string s7)), AV.dv (DV.val (Value.bool b8)), AV.dv (DV.val (Value.int IntKind.i64 j9)), AV.dv (DV.val (Value.string s10)), AV.sl b11 [Kd.s, Kd.b, Kd.i IntKind.i64, Kd.s, Kd.s, Kd.sl [Kd.s, Kd.b, Kd.i IntKind.i64, Kd.s], Kd.s, Kd.b, Kd.i IntKind.i64, Kd.s] r12 Right.no], AV.sl b13 [Kd.s, Kd.b, Kd.i IntKind.i64, Kd.s] r14 Right.no] [] (OSh.enc (OSh.plain (.tup [.agg [.s, .s, .s, .sl [Kd.b, Kd.i IntKind.i64, Kd.s]], .b]) []) y) :=
  auto_okM tm_std (with_ok mixed (by kernel_rfl) (match_Head_σok n) n 0 [1000053]) (with_pick mixed (by kernel_rfl) (match_Head_σok n) n 0 [1000053]) mixed Try.func19 (by decide) (o := (OSh.plain (.tup [.agg [.s, .s, .s, .sl [Kd.b, Kd.i IntKind.i64, Kd.s]], .b]) [])) h
/-! match_Body: function 21 -/
def match_Body_lv : Live := [(3, [1, 2, 6, 17, 18, 19], [2, 1000, 1001, 1002, 1003])]
noncomputable def match_Body_σ (n : Nat) : Spec := (inst 34 [.agg [.s, .b, .i IntKind.i64, .s], .agg [.s, .b, .i IntKind.i64, .s]] [] (OSh.plain (.agg [.s, .b, .i IntKind.i64, .s]) []) (fun x e => match_or_v n x.1.1 x.1.2.1 x.1.2.2.1 x.1.2.2.2.1 x.2.1.1 x.2.1.2.1 x.2.1.2.2.1 x.2.1.2.2.2.1) (inst 39 [.agg [.s, .b, .i IntKind.i64, .s], .sl [Kd.s, Kd.b, Kd.i IntKind.i64, Kd.s]] [] (OSh.plain (.tup [.s, .b]) []) (fun x e => match_name_v n x.1.1 x.1.2.1 x.1.2.2.1 x.1.2.2.2.1 x.2.1.1 x.2.1.2) (inst 40 [.sl [Kd.s, Kd.b, Kd.i IntKind.i64, Kd.s], .sl [Kd.s, Kd.b, Kd.i IntKind.i64, Kd.s]] [] (OSh.plain (.tup [.slt [Kd.b, Kd.i IntKind.i64, Kd.s] 0, .b]) []) (fun x e => match_values_v n x.1.1 x.1.2 x.2.1.1 x.2.1.2) Spec.none)))
theorem match_Body_σok (n : Nat) : SpecOk Try.prog (match_Body_σ n) := (inst_ok (fun x e y h => match_or_c n x.1.1 x.1.2.1 x.1.2.2.1 x.1.2.2.2.1 x.2.1.1 x.2.1.2.1 x.2.1.2.2.1 x.2.1.2.2.2.1 y h) (inst_ok (fun x e y h => match_name_c n x.1.1 x.1.2.1 x.1.2.2.1 x.1.2.2.2.1 x.2.1.1 x.2.1.2 y h) (inst_ok (fun x e y h => match_values_c n x.1.1 x.1.2 x.2.1.1 x.2.1.2 y h) (SpecOk.none _))))
noncomputable def match_Body_Φ (n : Nat) : Orc := with_ Try.prog (match_Body_σ n) [] n 0 [1000053]
noncomputable def match_Body_v (n : Nat) (s0 : ByteArray) (b1 : Bool) (j2 : Int) (s3 : ByteArray) (s4 : ByteArray) (b5 : Bool) (r6 : Rows) (s7 : ByteArray) (b8 : Bool) (j9 : Int) (s10 : ByteArray) (b11 : Bool) (r12 : Rows) (b13 : Bool) (r14 : Rows) : Option (((Bool × Rows) × Bool × Unit) × Unit) :=
  DM.denFn tm (match_Body_Φ n) match_Body_lv n Try.f21 true [AV.agg [AV.dv (DV.val (Value.string s0)), AV.dv (DV.val (Value.bool b1)), AV.dv (DV.val (Value.int IntKind.i64 j2)), AV.dv (DV.val (Value.string s3)), AV.dv (DV.val (Value.string s4)), AV.sl b5 [Kd.s, Kd.b, Kd.i IntKind.i64, Kd.s] r6 Right.no, AV.dv (DV.val (Value.string s7)), AV.dv (DV.val (Value.bool b8)), AV.dv (DV.val (Value.int IntKind.i64 j9)), AV.dv (DV.val (Value.string s10)), AV.sl b11 [Kd.s, Kd.b, Kd.i IntKind.i64, Kd.s, Kd.s, Kd.sl [Kd.s, Kd.b, Kd.i IntKind.i64, Kd.s], Kd.s, Kd.b, Kd.i IntKind.i64, Kd.s] r12 Right.no], AV.sl b13 [Kd.s, Kd.b, Kd.i IntKind.i64, Kd.s] r14 Right.no] [] (OSh.chk (OSh.plain (.tup [.slt [Kd.s, Kd.s, Kd.s, Kd.sl [Kd.b, Kd.i IntKind.i64, Kd.s]] 0, .b]) []))
noncomputable def match_Body_l3 (n : Nat) (s0 : ByteArray) (b1 : Bool) (j2 : Int) (s3 : ByteArray) (s4 : ByteArray) (b5 : Bool) (r6 : Rows) (s7 : ByteArray) (b8 : Bool) (j9 : Int) (s10 : ByteArray) (b11 : Bool) (r12 : Rows) (b13 : Bool) (r14 : Rows) (i0 : Nat) (b20 : Bool) (r21 : List (List DV)) (j22 : Int) : Option (((Bool × Rows) × Bool × Unit) × Unit) :=
  DM.loopFn tm (match_Body_Φ n) match_Body_lv n Try.f21 true [] (OSh.chk (OSh.plain (.tup [.slt [Kd.s, Kd.s, Kd.s, Kd.sl [Kd.b, Kd.i IntKind.i64, Kd.s]] 0, .b]) [])) 3 [] i0 (St.mk [AV.junk, AV.sl b13 [Kd.s, Kd.b, Kd.i IntKind.i64, Kd.s] r14 Right.no, AV.pl 2 0, AV.junk, AV.junk, AV.junk, AV.sl b20 [Kd.s, Kd.s, Kd.s, Kd.sl [Kd.b, Kd.i IntKind.i64, Kd.s]] r21 (Right.tok 6), AV.junk, AV.junk, AV.junk, AV.junk, AV.junk, AV.junk, AV.junk, AV.junk, AV.junk, AV.junk, AV.sl b11 [Kd.s, Kd.b, Kd.i IntKind.i64, Kd.s, Kd.s, Kd.sl [Kd.s, Kd.b, Kd.i IntKind.i64, Kd.s], Kd.s, Kd.b, Kd.i IntKind.i64, Kd.s] r12 Right.no, AV.dv (DV.val (Value.int IntKind.i64 (↑(List.length r12) : Int))), AV.dv (DV.val (Value.int IntKind.i64 j22)), AV.junk, AV.junk, AV.junk, AV.junk, AV.junk, AV.junk, AV.junk, AV.junk, AV.junk, AV.junk, AV.junk, AV.junk, AV.junk, AV.junk, AV.junk, AV.junk, AV.junk, AV.junk, AV.junk, AV.junk, AV.junk, AV.junk, AV.junk, AV.junk, AV.junk, AV.junk, AV.junk, AV.junk, AV.junk, AV.junk, AV.junk, AV.junk, AV.junk, AV.junk, AV.junk, AV.junk, AV.junk, AV.junk, AV.junk, AV.junk, AV.junk, AV.junk, AV.junk, AV.junk, AV.junk, AV.junk, AV.junk, AV.junk, AV.junk, AV.junk, AV.junk] [(2, [AV.dv (DV.val (Value.string s0)), AV.dv (DV.val (Value.bool b1)), AV.dv (DV.val (Value.int IntKind.i64 j2)), AV.dv (DV.val (Value.string s3)), AV.dv (DV.val (Value.string s4)), AV.sl b5 [Kd.s, Kd.b, Kd.i IntKind.i64, Kd.s] r6 Right.no, AV.dv (DV.val (Value.string s7)), AV.dv (DV.val (Value.bool b8)), AV.dv (DV.val (Value.int IntKind.i64 j9)), AV.dv (DV.val (Value.string s10)), AV.sl b11 [Kd.s, Kd.b, Kd.i IntKind.i64, Kd.s, Kd.s, Kd.sl [Kd.s, Kd.b, Kd.i IntKind.i64, Kd.s], Kd.s, Kd.b, Kd.i IntKind.i64, Kd.s] r12 Right.no])])
theorem match_Body_s3 (n : Nat) (s0 : ByteArray) (b1 : Bool) (j2 : Int) (s3 : ByteArray) (s4 : ByteArray) (b5 : Bool) (r6 : Rows) (s7 : ByteArray) (b8 : Bool) (j9 : Int) (s10 : ByteArray) (b11 : Bool) (r12 : Rows) (b13 : Bool) (r14 : Rows) (i0 : Nat) (b20 : Bool) (r21 : List (List DV)) (j22 : Int) : match_Body_l3 n s0 b1 j2 s3 s4 b5 r6 s7 b8 j9 s10 b11 r12 b13 r14 (i0 + 1) b20 r21 j22 =
  bif decide (j22 < (↑(List.length r12) : Int)) then
    if 0 ≤ j22 then
      if j22 < (↑(List.length r12) : Int) then
        obind (match_or_v n (Row.S (List.getD r12 (Int.toNat j22) []) 6) (Row.B (List.getD r12 (Int.toNat j22) []) 7) (Row.I (List.getD r12 (Int.toNat j22) []) 8) (Row.S (List.getD r12 (Int.toNat j22) []) 9) s0 b1 j2 s3) fun y23 =>
        obind (match_name_v n y23.fst.fst y23.fst.snd.fst y23.fst.snd.snd.fst y23.fst.snd.snd.snd.fst b13 r14) fun y24 =>
        obind (match_or_v n (Row.S (List.getD r12 (Int.toNat j22) []) 0) (Row.B (List.getD r12 (Int.toNat j22) []) 1) (Row.I (List.getD r12 (Int.toNat j22) []) 2) (Row.S (List.getD r12 (Int.toNat j22) []) 3) y23.fst.fst y23.fst.snd.fst y23.fst.snd.snd.fst y23.fst.snd.snd.snd.fst) fun y25 =>
        obind (match_name_v n y25.fst.fst y25.fst.snd.fst y25.fst.snd.snd.fst y25.fst.snd.snd.snd.fst b13 r14) fun y26 =>
        obind (match_values_v n (Row.N (List.getD r12 (Int.toNat j22) []) 5) (Row.R (List.getD r12 (Int.toNat j22) []) 5) b13 r14) fun y27 =>
        bif !y24.fst.snd.fst then
          some (((true, []), (false, ())), ())
        else bif !y26.fst.snd.fst then
          some (((true, []), (false, ())), ())
        else bif !y27.fst.snd.fst then
          some (((true, []), (false, ())), ())
        else if (List.length r21 + List.length [[DV.val (Value.string y24.fst.fst), DV.val (Value.string y26.fst.fst), DV.val (Value.string (Row.S (List.getD r12 (Int.toNat j22) []) 4)), DV.sl y27.fst.fst.fst [Kd.b, Kd.i IntKind.i64, Kd.s] y27.fst.fst.snd]]) * 72 ≤ 140737488355328 then
          match_Body_l3 n s0 b1 j2 s3 s4 b5 r6 s7 b8 j9 s10 b11 r12 b13 r14 i0 (b20 && List.isEmpty [[DV.val (Value.string y24.fst.fst), DV.val (Value.string y26.fst.fst), DV.val (Value.string (Row.S (List.getD r12 (Int.toNat j22) []) 4)), DV.sl y27.fst.fst.fst [Kd.b, Kd.i IntKind.i64, Kd.s] y27.fst.fst.snd]]) (appX r21 [[DV.val (Value.string y24.fst.fst), DV.val (Value.string y26.fst.fst), DV.val (Value.string (Row.S (List.getD r12 (Int.toNat j22) []) 4)), DV.sl y27.fst.fst.fst [Kd.b, Kd.i IntKind.i64, Kd.s] y27.fst.fst.snd]]) (IntKind.wrap IntKind.i64 (j22 + 1))
        else none
      else none
    else none
  else some (((b20, r21), (true, ())), ()) := by kernel_rfl
theorem match_Body_e (n : Nat) (s0 : ByteArray) (b1 : Bool) (j2 : Int) (s3 : ByteArray) (s4 : ByteArray) (b5 : Bool) (r6 : Rows) (s7 : ByteArray) (b8 : Bool) (j9 : Int) (s10 : ByteArray) (b11 : Bool) (r12 : Rows) (b13 : Bool) (r14 : Rows) : match_Body_v n s0 b1 j2 s3 s4 b5 r6 s7 b8 j9 s10 b11 r12 b13 r14 =
  match_Body_l3 n s0 b1 j2 s3 s4 b5 r6 s7 b8 j9 s10 b11 r12 b13 r14 n true [] 0 := by kernel_rfl
theorem match_Body_c (n : Nat) (s0 : ByteArray) (b1 : Bool) (j2 : Int) (s3 : ByteArray) (s4 : ByteArray) (b5 : Bool) (r6 : Rows) (s7 : ByteArray) (b8 : Bool) (j9 : Int) (s10 : ByteArray) (b11 : Bool) (r12 : Rows) (b13 : Bool) (r14 : Rows) (y : ((Bool × Rows) × Bool × Unit) × Unit) (h : match_Body_v n s0 b1 j2 s3 s4 b5 r6 s7 b8 j9 s10 b11 r12 b13 r14 = some y) : Contract Try.prog 21 [AV.agg [AV.dv (DV.val (Value.string s0)), AV.dv (DV.val (Value.bool b1)), AV.dv (DV.val (Value.int IntKind.i64 j2)), AV.dv (DV.val (Value.string s3)), AV.dv (DV.val (Value.string s4)), AV.sl b5 [Kd.s, Kd.b, Kd.i IntKind.i64, Kd.s] r6 Right.no, AV.dv (DV.val (Value.string s7)), AV.dv (DV.val (Value.bool b8)), AV.dv (DV.val (Value.int IntKind.i64 j9)), AV.dv (DV.val (Value.string s10)), AV.sl b11 [Kd.s, Kd.b, Kd.i IntKind.i64, Kd.s, Kd.s, Kd.sl [Kd.s, Kd.b, Kd.i IntKind.i64, Kd.s], Kd.s, Kd.b, Kd.i IntKind.i64, Kd.s] r12 Right.no], AV.sl b13 [Kd.s, Kd.b, Kd.i IntKind.i64, Kd.s] r14 Right.no] [] (OSh.enc (OSh.plain (.tup [.slt [Kd.s, Kd.s, Kd.s, Kd.sl [Kd.b, Kd.i IntKind.i64, Kd.s]] 0, .b]) []) y) :=
  auto_okM tm_std (with_ok mixed (by kernel_rfl) (match_Body_σok n) n 0 [1000053]) (with_pick mixed (by kernel_rfl) (match_Body_σok n) n 0 [1000053]) mixed Try.func21 (by decide) (o := (OSh.plain (.tup [.slt [Kd.s, Kd.s, Kd.s, Kd.sl [Kd.b, Kd.i IntKind.i64, Kd.s]] 0, .b]) [])) h
/-! ref10_Has: function 45 -/
def ref10_Has_lv : Live := [(2, [0, 1, 5], [1000, 1001, 1002, 1003])]
noncomputable def ref10_Has_σ (n : Nat) : Spec := Spec.none
theorem ref10_Has_σok (n : Nat) : SpecOk Try.prog (ref10_Has_σ n) := (SpecOk.none _)
noncomputable def ref10_Has_Φ (n : Nat) : Orc := with_ Try.prog (ref10_Has_σ n) [] n 0 [1000053]
noncomputable def ref10_Has_v (n : Nat) (b0 : Bool) (r1 : Rows) (s2 : ByteArray) : Option (Bool × Unit) :=
  DM.denFn tm (ref10_Has_Φ n) ref10_Has_lv n Try.f45 false [AV.sl b0 [Kd.s] r1 Right.no, AV.dv (DV.val (Value.string s2))] [] (OSh.chk (OSh.plain (.b) []))
noncomputable def ref10_Has_l2 (n : Nat) (b0 : Bool) (r1 : Rows) (s2 : ByteArray) (i0 : Nat) (j3 : Int) : Option (Bool × Unit) :=
  DM.loopFn tm (ref10_Has_Φ n) ref10_Has_lv n Try.f45 false [] (OSh.chk (OSh.plain (.b) [])) 2 [] i0 (St.mk [AV.sl b0 [Kd.s] r1 Right.no, AV.dv (DV.val (Value.string s2)), AV.junk, AV.junk, AV.junk, AV.dv (DV.val (Value.int IntKind.i64 j3)), AV.junk, AV.junk, AV.junk, AV.junk, AV.junk, AV.junk, AV.junk, AV.junk, AV.junk, AV.junk, AV.junk, AV.junk] [])
theorem ref10_Has_s2 (n : Nat) (b0 : Bool) (r1 : Rows) (s2 : ByteArray) (i0 : Nat) (j3 : Int) : ref10_Has_l2 n b0 r1 s2 (i0 + 1) j3 =
  bif decide (j3 < (↑(List.length r1) : Int)) then
    if 0 ≤ j3 then
      if j3 < (↑(List.length r1) : Int) then
        bif Row.S (List.getD r1 (Int.toNat j3) []) 0 == s2 then
          some (true, ())
        else ref10_Has_l2 n b0 r1 s2 i0 (IntKind.wrap IntKind.i64 (j3 + 1))
      else none
    else none
  else some (false, ()) := by kernel_rfl
theorem ref10_Has_e (n : Nat) (b0 : Bool) (r1 : Rows) (s2 : ByteArray) : ref10_Has_v n b0 r1 s2 =
  ref10_Has_l2 n b0 r1 s2 n 0 := by kernel_rfl
theorem ref10_Has_c (n : Nat) (b0 : Bool) (r1 : Rows) (s2 : ByteArray) (y : Bool × Unit) (h : ref10_Has_v n b0 r1 s2 = some y) : Contract Try.prog 45 [AV.sl b0 [Kd.s] r1 Right.no, AV.dv (DV.val (Value.string s2))] [] (OSh.enc (OSh.plain (.b) []) y) :=
  auto_okM tm_std (with_ok mixed (by kernel_rfl) (ref10_Has_σok n) n 0 [1000053]) (with_pick mixed (by kernel_rfl) (ref10_Has_σok n) n 0 [1000053]) mixed Try.func45 (by decide) (o := (OSh.plain (.b) [])) h
/-! ref10_with: function 53 -/
def ref10_with_lv : Live := []
noncomputable def ref10_with_σ (n : Nat) : Spec := (inst 45 [.sl [Kd.s], .s] [] (OSh.plain (.b) []) (fun x e => ref10_Has_v n x.1.1 x.1.2 x.2.1) Spec.none)
theorem ref10_with_σok (n : Nat) : SpecOk Try.prog (ref10_with_σ n) := (inst_ok (fun x e y h => ref10_Has_c n x.1.1 x.1.2 x.2.1 y h) (SpecOk.none _))
noncomputable def ref10_with_Φ (n : Nat) : Orc := with_ Try.prog (ref10_with_σ n) [] n 0 [1000053]
noncomputable def ref10_with_v (n : Nat) (b0 : Bool) (r1 : Rows) (s2 : ByteArray) (b3 : Bool) (j4 : Int) (s5 : ByteArray) : Option ((Bool × Rows) × Unit) :=
  DM.denFn tm (ref10_with_Φ n) ref10_with_lv n Try.f53 true [AV.sl b0 [Kd.s] r1 (Right.tok 500000), AV.agg [AV.dv (DV.val (Value.string s2)), AV.dv (DV.val (Value.bool b3)), AV.dv (DV.val (Value.int IntKind.i64 j4)), AV.dv (DV.val (Value.string s5))]] [] (OSh.chk (OSh.plain (.slt [Kd.s] 0) []))
theorem ref10_with_e (n : Nat) (b0 : Bool) (r1 : Rows) (s2 : ByteArray) (b3 : Bool) (j4 : Int) (s5 : ByteArray) : ref10_with_v n b0 r1 s2 b3 j4 s5 =
  bif s2 == ByteArray.mk #[] then
    some ((b0, r1), ())
  else obind (ref10_Has_v n b0 r1 s2) fun y6 =>
  bif y6.fst then
    some ((b0, r1), ())
  else if (List.length r1 + List.length [[DV.val (Value.string s2)]]) * 16 ≤ 140737488355328 then
    some ((b0 && List.isEmpty [[DV.val (Value.string s2)]], appX r1 [[DV.val (Value.string s2)]]), ())
  else none := by kernel_rfl
theorem ref10_with_c (n : Nat) (b0 : Bool) (r1 : Rows) (s2 : ByteArray) (b3 : Bool) (j4 : Int) (s5 : ByteArray) (y : (Bool × Rows) × Unit) (h : ref10_with_v n b0 r1 s2 b3 j4 s5 = some y) : Contract Try.prog 53 [AV.sl b0 [Kd.s] r1 (Right.tok 500000), AV.agg [AV.dv (DV.val (Value.string s2)), AV.dv (DV.val (Value.bool b3)), AV.dv (DV.val (Value.int IntKind.i64 j4)), AV.dv (DV.val (Value.string s5))]] [] (OSh.enc (OSh.plain (.slt [Kd.s] 0) []) y) :=
  auto_okM tm_std (with_ok mixed (by kernel_rfl) (ref10_with_σok n) n 0 [1000053]) (with_pick mixed (by kernel_rfl) (ref10_with_σok n) n 0 [1000053]) mixed Try.func53 (by decide) (o := (OSh.plain (.slt [Kd.s] 0) [])) h
/-! ref10_Bound: function 50 -/
def ref10_Bound_lv : Live := [(3, [1, 2, 5, 6], [2, 1000, 1001, 1002, 1003]), (7, [1, 2, 5, 6, 7], [2, 1000, 1001, 1002, 1003])]
noncomputable def ref10_Bound_σ (n : Nat) : Spec := (inst 53 [.slt [Kd.s] 500000, .agg [.s, .b, .i IntKind.i64, .s]] [] (OSh.plain (.slt [Kd.s] 0) []) (fun x e => ref10_with_v n x.1.1 x.1.2 x.2.1.1 x.2.1.2.1 x.2.1.2.2.1 x.2.1.2.2.2.1) Spec.none)
theorem ref10_Bound_σok (n : Nat) : SpecOk Try.prog (ref10_Bound_σ n) := (inst_ok (fun x e y h => ref10_with_c n x.1.1 x.1.2 x.2.1.1 x.2.1.2.1 x.2.1.2.2.1 x.2.1.2.2.2.1 y h) (SpecOk.none _))
noncomputable def ref10_Bound_Φ (n : Nat) : Orc := with_ Try.prog (ref10_Bound_σ n) [] n 0 [1000053]
noncomputable def ref10_Bound_v (n : Nat) (s0 : ByteArray) (b1 : Bool) (j2 : Int) (s3 : ByteArray) (s4 : ByteArray) (b5 : Bool) (r6 : Rows) (s7 : ByteArray) (b8 : Bool) (j9 : Int) (s10 : ByteArray) (b11 : Bool) (r12 : Rows) (j13 : Int) : Option ((Bool × Rows) × Unit) :=
  DM.denFn tm (ref10_Bound_Φ n) ref10_Bound_lv n Try.f50 true [AV.agg [AV.dv (DV.val (Value.string s0)), AV.dv (DV.val (Value.bool b1)), AV.dv (DV.val (Value.int IntKind.i64 j2)), AV.dv (DV.val (Value.string s3)), AV.dv (DV.val (Value.string s4)), AV.sl b5 [Kd.s, Kd.b, Kd.i IntKind.i64, Kd.s] r6 Right.no, AV.dv (DV.val (Value.string s7)), AV.dv (DV.val (Value.bool b8)), AV.dv (DV.val (Value.int IntKind.i64 j9)), AV.dv (DV.val (Value.string s10)), AV.sl b11 [Kd.s, Kd.b, Kd.i IntKind.i64, Kd.s, Kd.s, Kd.sl [Kd.s, Kd.b, Kd.i IntKind.i64, Kd.s], Kd.s, Kd.b, Kd.i IntKind.i64, Kd.s] r12 Right.no], AV.dv (DV.val (Value.int IntKind.i64 j13))] [] (OSh.chk (OSh.plain (.slt [Kd.s] 0) []))
noncomputable def ref10_Bound_l3 (n : Nat) (s0 : ByteArray) (b1 : Bool) (j2 : Int) (s3 : ByteArray) (s4 : ByteArray) (b5 : Bool) (r6 : Rows) (s7 : ByteArray) (b8 : Bool) (j9 : Int) (s10 : ByteArray) (b11 : Bool) (r12 : Rows) (j13 : Int) (i0 : Nat) (b15 : Bool) (r16 : List (List DV)) (j23 : Int) : Option ((Bool × Rows) × Unit) :=
  DM.loopFn tm (ref10_Bound_Φ n) ref10_Bound_lv n Try.f50 true [] (OSh.chk (OSh.plain (.slt [Kd.s] 0) [])) 3 [] i0 (St.mk [AV.junk, AV.dv (DV.val (Value.int IntKind.i64 j13)), AV.pl 2 0, AV.junk, AV.junk, AV.sl b15 [Kd.s] r16 (Right.tok 5), AV.dv (DV.val (Value.int IntKind.i64 j23)), AV.junk, AV.junk, AV.junk, AV.junk, AV.junk, AV.junk, AV.junk, AV.junk, AV.junk, AV.junk, AV.junk, AV.junk, AV.junk, AV.junk, AV.junk, AV.junk, AV.junk, AV.junk, AV.junk, AV.junk, AV.junk, AV.junk, AV.junk, AV.junk, AV.junk, AV.junk, AV.junk, AV.junk, AV.junk, AV.junk, AV.junk, AV.junk, AV.junk, AV.junk, AV.junk, AV.junk, AV.junk, AV.junk, AV.junk, AV.junk, AV.junk, AV.junk, AV.junk, AV.junk, AV.junk, AV.junk, AV.junk, AV.junk, AV.junk, AV.junk, AV.junk, AV.junk, AV.junk, AV.junk, AV.junk] [(2, [AV.dv (DV.val (Value.string s0)), AV.dv (DV.val (Value.bool b1)), AV.dv (DV.val (Value.int IntKind.i64 j2)), AV.dv (DV.val (Value.string s3)), AV.dv (DV.val (Value.string s4)), AV.sl b5 [Kd.s, Kd.b, Kd.i IntKind.i64, Kd.s] r6 Right.no, AV.dv (DV.val (Value.string s7)), AV.dv (DV.val (Value.bool b8)), AV.dv (DV.val (Value.int IntKind.i64 j9)), AV.dv (DV.val (Value.string s10)), AV.sl b11 [Kd.s, Kd.b, Kd.i IntKind.i64, Kd.s, Kd.s, Kd.sl [Kd.s, Kd.b, Kd.i IntKind.i64, Kd.s], Kd.s, Kd.b, Kd.i IntKind.i64, Kd.s] r12 Right.no])])
noncomputable def ref10_Bound_l7 (n : Nat) (s0 : ByteArray) (b1 : Bool) (j2 : Int) (s3 : ByteArray) (s4 : ByteArray) (b5 : Bool) (r6 : Rows) (s7 : ByteArray) (b8 : Bool) (j9 : Int) (s10 : ByteArray) (b11 : Bool) (r12 : Rows) (j13 : Int) (i0 i1 : Nat) (b18 : Bool) (r19 : List (List DV)) (j22 : Int) (j25 : Int) : Option ((Bool × Rows) × Unit) :=
  DM.loopFn tm (ref10_Bound_Φ n) ref10_Bound_lv n Try.f50 true [] (OSh.chk (OSh.plain (.slt [Kd.s] 0) [])) 7 [i0] i1 (St.mk [AV.junk, AV.dv (DV.val (Value.int IntKind.i64 j13)), AV.pl 2 0, AV.junk, AV.junk, AV.sl b18 [Kd.s] r19 (Right.tok 5), AV.dv (DV.val (Value.int IntKind.i64 j25)), AV.dv (DV.val (Value.int IntKind.i64 j22)), AV.junk, AV.junk, AV.junk, AV.junk, AV.junk, AV.junk, AV.junk, AV.junk, AV.junk, AV.junk, AV.junk, AV.junk, AV.junk, AV.junk, AV.junk, AV.junk, AV.junk, AV.junk, AV.junk, AV.junk, AV.junk, AV.junk, AV.junk, AV.junk, AV.junk, AV.junk, AV.junk, AV.junk, AV.junk, AV.junk, AV.junk, AV.junk, AV.junk, AV.junk, AV.junk, AV.junk, AV.junk, AV.junk, AV.junk, AV.junk, AV.junk, AV.junk, AV.junk, AV.junk, AV.junk, AV.junk, AV.junk, AV.junk, AV.junk, AV.junk, AV.junk, AV.junk, AV.junk, AV.junk] [(2, [AV.dv (DV.val (Value.string s0)), AV.dv (DV.val (Value.bool b1)), AV.dv (DV.val (Value.int IntKind.i64 j2)), AV.dv (DV.val (Value.string s3)), AV.dv (DV.val (Value.string s4)), AV.sl b5 [Kd.s, Kd.b, Kd.i IntKind.i64, Kd.s] r6 Right.no, AV.dv (DV.val (Value.string s7)), AV.dv (DV.val (Value.bool b8)), AV.dv (DV.val (Value.int IntKind.i64 j9)), AV.dv (DV.val (Value.string s10)), AV.sl b11 [Kd.s, Kd.b, Kd.i IntKind.i64, Kd.s, Kd.s, Kd.sl [Kd.s, Kd.b, Kd.i IntKind.i64, Kd.s], Kd.s, Kd.b, Kd.i IntKind.i64, Kd.s] r12 Right.no])])
theorem ref10_Bound_s3 (n : Nat) (s0 : ByteArray) (b1 : Bool) (j2 : Int) (s3 : ByteArray) (s4 : ByteArray) (b5 : Bool) (r6 : Rows) (s7 : ByteArray) (b8 : Bool) (j9 : Int) (s10 : ByteArray) (b11 : Bool) (r12 : Rows) (j13 : Int) (i0 : Nat) (b15 : Bool) (r16 : List (List DV)) (j23 : Int) : ref10_Bound_l3 n s0 b1 j2 s3 s4 b5 r6 s7 b8 j9 s10 b11 r12 j13 (i0 + 1) b15 r16 j23 =
  bif decide (j23 < (↑(List.length r12) : Int)) then
    bif decide (j23 < j13) then
      if 0 ≤ j23 then
        if j23 < (↑(List.length r12) : Int) then
          obind (ref10_with_v n b15 r16 (Row.S (List.getD r12 (Int.toNat j23) []) 0) (Row.B (List.getD r12 (Int.toNat j23) []) 1) (Row.I (List.getD r12 (Int.toNat j23) []) 2) (Row.S (List.getD r12 (Int.toNat j23) []) 3)) fun y24 =>
          ref10_Bound_l7 n s0 b1 j2 s3 s4 b5 r6 s7 b8 j9 s10 b11 r12 j13 i0 n y24.fst.fst y24.fst.snd 0 j23
        else none
      else none
    else some ((b15, r16), ())
  else some ((b15, r16), ()) := by kernel_rfl
theorem ref10_Bound_s7 (n : Nat) (s0 : ByteArray) (b1 : Bool) (j2 : Int) (s3 : ByteArray) (s4 : ByteArray) (b5 : Bool) (r6 : Rows) (s7 : ByteArray) (b8 : Bool) (j9 : Int) (s10 : ByteArray) (b11 : Bool) (r12 : Rows) (j13 : Int) (i0 i1 : Nat) (b18 : Bool) (r19 : List (List DV)) (j22 : Int) (j25 : Int) : ref10_Bound_l7 n s0 b1 j2 s3 s4 b5 r6 s7 b8 j9 s10 b11 r12 j13 i0 (i1 + 1) b18 r19 j22 j25 =
  if 0 ≤ j25 then
    if j25 < (↑(List.length r12) : Int) then
      bif decide (j22 < (↑(List.length (Row.R (List.getD r12 (Int.toNat j25) []) 5)) : Int)) then
        if 0 ≤ j25 then
          if j25 < (↑(List.length r12) : Int) then
            if 0 ≤ j22 then
              if j22 < (↑(List.length (Row.R (List.getD r12 (Int.toNat j25) []) 5)) : Int) then
                obind (ref10_with_v n b18 r19 (Row.S (List.getD (Row.R (List.getD r12 (Int.toNat j25) []) 5) (Int.toNat j22) []) 0) (Row.B (List.getD (Row.R (List.getD r12 (Int.toNat j25) []) 5) (Int.toNat j22) []) 1) (Row.I (List.getD (Row.R (List.getD r12 (Int.toNat j25) []) 5) (Int.toNat j22) []) 2) (Row.S (List.getD (Row.R (List.getD r12 (Int.toNat j25) []) 5) (Int.toNat j22) []) 3)) fun y26 =>
                ref10_Bound_l7 n s0 b1 j2 s3 s4 b5 r6 s7 b8 j9 s10 b11 r12 j13 i0 i1 y26.fst.fst y26.fst.snd (IntKind.wrap IntKind.i64 (j22 + 1)) j25
              else none
            else none
          else none
        else none
      else if 0 ≤ j25 then
        if j25 < (↑(List.length r12) : Int) then
          obind (ref10_with_v n b18 r19 (Row.S (List.getD r12 (Int.toNat j25) []) 6) (Row.B (List.getD r12 (Int.toNat j25) []) 7) (Row.I (List.getD r12 (Int.toNat j25) []) 8) (Row.S (List.getD r12 (Int.toNat j25) []) 9)) fun y27 =>
          ref10_Bound_l3 n s0 b1 j2 s3 s4 b5 r6 s7 b8 j9 s10 b11 r12 j13 i0 y27.fst.fst y27.fst.snd (IntKind.wrap IntKind.i64 (j25 + 1))
        else none
      else none
    else none
  else none := by kernel_rfl
theorem ref10_Bound_e (n : Nat) (s0 : ByteArray) (b1 : Bool) (j2 : Int) (s3 : ByteArray) (s4 : ByteArray) (b5 : Bool) (r6 : Rows) (s7 : ByteArray) (b8 : Bool) (j9 : Int) (s10 : ByteArray) (b11 : Bool) (r12 : Rows) (j13 : Int) : ref10_Bound_v n s0 b1 j2 s3 s4 b5 r6 s7 b8 j9 s10 b11 r12 j13 =
  obind (ref10_with_v n true [] s0 b1 j2 s3) fun y14 =>
  ref10_Bound_l3 n s0 b1 j2 s3 s4 b5 r6 s7 b8 j9 s10 b11 r12 j13 n y14.fst.fst y14.fst.snd 0 := by kernel_rfl
theorem ref10_Bound_c (n : Nat) (s0 : ByteArray) (b1 : Bool) (j2 : Int) (s3 : ByteArray) (s4 : ByteArray) (b5 : Bool) (r6 : Rows) (s7 : ByteArray) (b8 : Bool) (j9 : Int) (s10 : ByteArray) (b11 : Bool) (r12 : Rows) (j13 : Int) (y : (Bool × Rows) × Unit) (h : ref10_Bound_v n s0 b1 j2 s3 s4 b5 r6 s7 b8 j9 s10 b11 r12 j13 = some y) : Contract Try.prog 50 [AV.agg [AV.dv (DV.val (Value.string s0)), AV.dv (DV.val (Value.bool b1)), AV.dv (DV.val (Value.int IntKind.i64 j2)), AV.dv (DV.val (Value.string s3)), AV.dv (DV.val (Value.string s4)), AV.sl b5 [Kd.s, Kd.b, Kd.i IntKind.i64, Kd.s] r6 Right.no, AV.dv (DV.val (Value.string s7)), AV.dv (DV.val (Value.bool b8)), AV.dv (DV.val (Value.int IntKind.i64 j9)), AV.dv (DV.val (Value.string s10)), AV.sl b11 [Kd.s, Kd.b, Kd.i IntKind.i64, Kd.s, Kd.s, Kd.sl [Kd.s, Kd.b, Kd.i IntKind.i64, Kd.s], Kd.s, Kd.b, Kd.i IntKind.i64, Kd.s] r12 Right.no], AV.dv (DV.val (Value.int IntKind.i64 j13))] [] (OSh.enc (OSh.plain (.slt [Kd.s] 0) []) y) :=
  auto_okM tm_std (with_ok mixed (by kernel_rfl) (ref10_Bound_σok n) n 0 [1000053]) (with_pick mixed (by kernel_rfl) (ref10_Bound_σok n) n 0 [1000053]) mixed Try.func50 (by decide) (o := (OSh.plain (.slt [Kd.s] 0) [])) h
/-! ref10_Vars: function 44 -/
def ref10_Vars_lv : Live := []
noncomputable def ref10_Vars_σ (n : Nat) : Spec := (inst 50 [.agg [.s, .b, .i IntKind.i64, .s, .s, .sl [Kd.s, Kd.b, Kd.i IntKind.i64, Kd.s], .s, .b, .i IntKind.i64, .s, .sl [Kd.s, Kd.b, Kd.i IntKind.i64, Kd.s, Kd.s, Kd.sl [Kd.s, Kd.b, Kd.i IntKind.i64, Kd.s], Kd.s, Kd.b, Kd.i IntKind.i64, Kd.s]], .i IntKind.i64] [] (OSh.plain (.slt [Kd.s] 0) []) (fun x e => ref10_Bound_v n x.1.1 x.1.2.1 x.1.2.2.1 x.1.2.2.2.1 x.1.2.2.2.2.1 x.1.2.2.2.2.2.1.1 x.1.2.2.2.2.2.1.2 x.1.2.2.2.2.2.2.1 x.1.2.2.2.2.2.2.2.1 x.1.2.2.2.2.2.2.2.2.1 x.1.2.2.2.2.2.2.2.2.2.1 x.1.2.2.2.2.2.2.2.2.2.2.1.1 x.1.2.2.2.2.2.2.2.2.2.2.1.2 x.2.1) Spec.none)
theorem ref10_Vars_σok (n : Nat) : SpecOk Try.prog (ref10_Vars_σ n) := (inst_ok (fun x e y h => ref10_Bound_c n x.1.1 x.1.2.1 x.1.2.2.1 x.1.2.2.2.1 x.1.2.2.2.2.1 x.1.2.2.2.2.2.1.1 x.1.2.2.2.2.2.1.2 x.1.2.2.2.2.2.2.1 x.1.2.2.2.2.2.2.2.1 x.1.2.2.2.2.2.2.2.2.1 x.1.2.2.2.2.2.2.2.2.2.1 x.1.2.2.2.2.2.2.2.2.2.2.1.1 x.1.2.2.2.2.2.2.2.2.2.2.1.2 x.2.1 y h) (SpecOk.none _))
noncomputable def ref10_Vars_Φ (n : Nat) : Orc := with_ Try.prog (ref10_Vars_σ n) [] n 0 [1000053]
noncomputable def ref10_Vars_v (n : Nat) (s0 : ByteArray) (b1 : Bool) (j2 : Int) (s3 : ByteArray) (s4 : ByteArray) (b5 : Bool) (r6 : Rows) (s7 : ByteArray) (b8 : Bool) (j9 : Int) (s10 : ByteArray) (b11 : Bool) (r12 : Rows) : Option ((Bool × Rows) × Unit) :=
  DM.denFn tm (ref10_Vars_Φ n) ref10_Vars_lv n Try.f44 true [AV.agg [AV.dv (DV.val (Value.string s0)), AV.dv (DV.val (Value.bool b1)), AV.dv (DV.val (Value.int IntKind.i64 j2)), AV.dv (DV.val (Value.string s3)), AV.dv (DV.val (Value.string s4)), AV.sl b5 [Kd.s, Kd.b, Kd.i IntKind.i64, Kd.s] r6 Right.no, AV.dv (DV.val (Value.string s7)), AV.dv (DV.val (Value.bool b8)), AV.dv (DV.val (Value.int IntKind.i64 j9)), AV.dv (DV.val (Value.string s10)), AV.sl b11 [Kd.s, Kd.b, Kd.i IntKind.i64, Kd.s, Kd.s, Kd.sl [Kd.s, Kd.b, Kd.i IntKind.i64, Kd.s], Kd.s, Kd.b, Kd.i IntKind.i64, Kd.s] r12 Right.no]] [] (OSh.chk (OSh.plain (.slt [Kd.s] 0) []))
theorem ref10_Vars_e (n : Nat) (s0 : ByteArray) (b1 : Bool) (j2 : Int) (s3 : ByteArray) (s4 : ByteArray) (b5 : Bool) (r6 : Rows) (s7 : ByteArray) (b8 : Bool) (j9 : Int) (s10 : ByteArray) (b11 : Bool) (r12 : Rows) : ref10_Vars_v n s0 b1 j2 s3 s4 b5 r6 s7 b8 j9 s10 b11 r12 =
  obind (ref10_Bound_v n s0 b1 j2 s3 s4 b5 r6 s7 b8 j9 s10 b11 r12 ((↑(List.length r12) : Int))) fun y13 =>
  some ((y13.fst.fst, y13.fst.snd), ()) := by kernel_rfl
theorem ref10_Vars_c (n : Nat) (s0 : ByteArray) (b1 : Bool) (j2 : Int) (s3 : ByteArray) (s4 : ByteArray) (b5 : Bool) (r6 : Rows) (s7 : ByteArray) (b8 : Bool) (j9 : Int) (s10 : ByteArray) (b11 : Bool) (r12 : Rows) (y : (Bool × Rows) × Unit) (h : ref10_Vars_v n s0 b1 j2 s3 s4 b5 r6 s7 b8 j9 s10 b11 r12 = some y) : Contract Try.prog 44 [AV.agg [AV.dv (DV.val (Value.string s0)), AV.dv (DV.val (Value.bool b1)), AV.dv (DV.val (Value.int IntKind.i64 j2)), AV.dv (DV.val (Value.string s3)), AV.dv (DV.val (Value.string s4)), AV.sl b5 [Kd.s, Kd.b, Kd.i IntKind.i64, Kd.s] r6 Right.no, AV.dv (DV.val (Value.string s7)), AV.dv (DV.val (Value.bool b8)), AV.dv (DV.val (Value.int IntKind.i64 j9)), AV.dv (DV.val (Value.string s10)), AV.sl b11 [Kd.s, Kd.b, Kd.i IntKind.i64, Kd.s, Kd.s, Kd.sl [Kd.s, Kd.b, Kd.i IntKind.i64, Kd.s], Kd.s, Kd.b, Kd.i IntKind.i64, Kd.s] r12 Right.no]] [] (OSh.enc (OSh.plain (.slt [Kd.s] 0) []) y) :=
  auto_okM tm_std (with_ok mixed (by kernel_rfl) (ref10_Vars_σok n) n 0 [1000053]) (with_pick mixed (by kernel_rfl) (ref10_Vars_σok n) n 0 [1000053]) mixed Try.func44 (by decide) (o := (OSh.plain (.slt [Kd.s] 0) [])) h
/-! law11_open: function 26 -/
def law11_open_lv : Live := [(4, [1, 3, 4, 5], [1, 1000, 1001, 1002, 1003])]
noncomputable def law11_open_σ (n : Nat) : Spec := (inst 44 [.agg [.s, .b, .i IntKind.i64, .s, .s, .sl [Kd.s, Kd.b, Kd.i IntKind.i64, Kd.s], .s, .b, .i IntKind.i64, .s, .sl [Kd.s, Kd.b, Kd.i IntKind.i64, Kd.s, Kd.s, Kd.sl [Kd.s, Kd.b, Kd.i IntKind.i64, Kd.s], Kd.s, Kd.b, Kd.i IntKind.i64, Kd.s]]] [] (OSh.plain (.slt [Kd.s] 0) []) (fun x e => ref10_Vars_v n x.1.1 x.1.2.1 x.1.2.2.1 x.1.2.2.2.1 x.1.2.2.2.2.1 x.1.2.2.2.2.2.1.1 x.1.2.2.2.2.2.1.2 x.1.2.2.2.2.2.2.1 x.1.2.2.2.2.2.2.2.1 x.1.2.2.2.2.2.2.2.2.1 x.1.2.2.2.2.2.2.2.2.2.1 x.1.2.2.2.2.2.2.2.2.2.2.1.1 x.1.2.2.2.2.2.2.2.2.2.2.1.2) (inst 45 [.sl [Kd.s], .s] [] (OSh.plain (.b) []) (fun x e => ref10_Has_v n x.1.1 x.1.2 x.2.1) Spec.none))
theorem law11_open_σok (n : Nat) : SpecOk Try.prog (law11_open_σ n) := (inst_ok (fun x e y h => ref10_Vars_c n x.1.1 x.1.2.1 x.1.2.2.1 x.1.2.2.2.1 x.1.2.2.2.2.1 x.1.2.2.2.2.2.1.1 x.1.2.2.2.2.2.1.2 x.1.2.2.2.2.2.2.1 x.1.2.2.2.2.2.2.2.1 x.1.2.2.2.2.2.2.2.2.1 x.1.2.2.2.2.2.2.2.2.2.1 x.1.2.2.2.2.2.2.2.2.2.2.1.1 x.1.2.2.2.2.2.2.2.2.2.2.1.2 y h) (inst_ok (fun x e y h => ref10_Has_c n x.1.1 x.1.2 x.2.1 y h) (SpecOk.none _)))
noncomputable def law11_open_Φ (n : Nat) : Orc := with_ Try.prog (law11_open_σ n) [] n 0 [1000053]
noncomputable def law11_open_v (n : Nat) (s0 : ByteArray) (b1 : Bool) (j2 : Int) (s3 : ByteArray) (s4 : ByteArray) (b5 : Bool) (r6 : Rows) (s7 : ByteArray) (b8 : Bool) (j9 : Int) (s10 : ByteArray) (b11 : Bool) (r12 : Rows) : Option (Bool × Unit) :=
  DM.denFn tm (law11_open_Φ n) law11_open_lv n Try.f26 false [AV.agg [AV.dv (DV.val (Value.string s0)), AV.dv (DV.val (Value.bool b1)), AV.dv (DV.val (Value.int IntKind.i64 j2)), AV.dv (DV.val (Value.string s3)), AV.dv (DV.val (Value.string s4)), AV.sl b5 [Kd.s, Kd.b, Kd.i IntKind.i64, Kd.s] r6 Right.no, AV.dv (DV.val (Value.string s7)), AV.dv (DV.val (Value.bool b8)), AV.dv (DV.val (Value.int IntKind.i64 j9)), AV.dv (DV.val (Value.string s10)), AV.sl b11 [Kd.s, Kd.b, Kd.i IntKind.i64, Kd.s, Kd.s, Kd.sl [Kd.s, Kd.b, Kd.i IntKind.i64, Kd.s], Kd.s, Kd.b, Kd.i IntKind.i64, Kd.s] r12 Right.no]] [] (OSh.chk (OSh.plain (.b) []))
noncomputable def law11_open_l4 (n : Nat) (s0 : ByteArray) (b1 : Bool) (j2 : Int) (s3 : ByteArray) (s4 : ByteArray) (b5 : Bool) (r6 : Rows) (s7 : ByteArray) (b8 : Bool) (j9 : Int) (s10 : ByteArray) (b11 : Bool) (r12 : Rows) (i0 : Nat) (b15 : Bool) (r16 : List (List DV)) (b17 : Bool) (j19 : Int) : Option (Bool × Unit) :=
  DM.loopFn tm (law11_open_Φ n) law11_open_lv n Try.f26 false [] (OSh.chk (OSh.plain (.b) [])) 4 [] i0 (St.mk [AV.junk, AV.pl 1 0, AV.junk, AV.sl b15 [Kd.s] r16 (Right.tok 3), AV.dv (DV.val (Value.bool b17)), AV.dv (DV.val (Value.int IntKind.i64 j19)), AV.junk, AV.junk, AV.junk, AV.junk, AV.junk, AV.junk, AV.junk, AV.junk, AV.junk, AV.junk, AV.junk, AV.junk, AV.junk, AV.junk, AV.junk, AV.junk, AV.junk, AV.junk, AV.junk, AV.junk, AV.junk, AV.junk, AV.junk, AV.junk, AV.junk, AV.junk, AV.junk, AV.junk, AV.junk, AV.junk, AV.junk, AV.junk, AV.junk, AV.junk, AV.junk, AV.junk, AV.junk, AV.junk, AV.junk, AV.junk, AV.junk, AV.junk, AV.junk] [(1, [AV.dv (DV.val (Value.string s0)), AV.dv (DV.val (Value.bool b1)), AV.dv (DV.val (Value.int IntKind.i64 j2)), AV.dv (DV.val (Value.string s3)), AV.dv (DV.val (Value.string s4)), AV.sl b5 [Kd.s, Kd.b, Kd.i IntKind.i64, Kd.s] r6 Right.no, AV.dv (DV.val (Value.string s7)), AV.dv (DV.val (Value.bool b8)), AV.dv (DV.val (Value.int IntKind.i64 j9)), AV.dv (DV.val (Value.string s10)), AV.sl b11 [Kd.s, Kd.b, Kd.i IntKind.i64, Kd.s, Kd.s, Kd.sl [Kd.s, Kd.b, Kd.i IntKind.i64, Kd.s], Kd.s, Kd.b, Kd.i IntKind.i64, Kd.s] r12 Right.no])])
theorem law11_open_s4 (n : Nat) (s0 : ByteArray) (b1 : Bool) (j2 : Int) (s3 : ByteArray) (s4 : ByteArray) (b5 : Bool) (r6 : Rows) (s7 : ByteArray) (b8 : Bool) (j9 : Int) (s10 : ByteArray) (b11 : Bool) (r12 : Rows) (i0 : Nat) (b15 : Bool) (r16 : List (List DV)) (b17 : Bool) (j19 : Int) : law11_open_l4 n s0 b1 j2 s3 s4 b5 r6 s7 b8 j9 s10 b11 r12 (i0 + 1) b15 r16 b17 j19 =
  bif decide (j19 < (↑(List.length r6) : Int)) then
    bif b17 then
      law11_open_l4 n s0 b1 j2 s3 s4 b5 r6 s7 b8 j9 s10 b11 r12 i0 b15 r16 true (IntKind.wrap IntKind.i64 (j19 + 1))
    else if 0 ≤ j19 then
      if j19 < (↑(List.length r6) : Int) then
        bif !Row.S (List.getD r6 (Int.toNat j19) []) 0 == ByteArray.mk #[] then
          if 0 ≤ j19 then
            if j19 < (↑(List.length r6) : Int) then
              obind (ref10_Has_v n b15 r16 (Row.S (List.getD r6 (Int.toNat j19) []) 0)) fun y20 =>
              law11_open_l4 n s0 b1 j2 s3 s4 b5 r6 s7 b8 j9 s10 b11 r12 i0 b15 r16 (!y20.fst) (IntKind.wrap IntKind.i64 (j19 + 1))
            else none
          else none
        else law11_open_l4 n s0 b1 j2 s3 s4 b5 r6 s7 b8 j9 s10 b11 r12 i0 b15 r16 false (IntKind.wrap IntKind.i64 (j19 + 1))
      else none
    else none
  else some (b17, ()) := by kernel_rfl
theorem law11_open_e (n : Nat) (s0 : ByteArray) (b1 : Bool) (j2 : Int) (s3 : ByteArray) (s4 : ByteArray) (b5 : Bool) (r6 : Rows) (s7 : ByteArray) (b8 : Bool) (j9 : Int) (s10 : ByteArray) (b11 : Bool) (r12 : Rows) : law11_open_v n s0 b1 j2 s3 s4 b5 r6 s7 b8 j9 s10 b11 r12 =
  obind (ref10_Vars_v n s0 b1 j2 s3 s4 b5 r6 s7 b8 j9 s10 b11 r12) fun y13 =>
  bif !s7 == ByteArray.mk #[] then
    obind (ref10_Has_v n y13.fst.fst y13.fst.snd s7) fun y14 =>
    law11_open_l4 n s0 b1 j2 s3 s4 b5 r6 s7 b8 j9 s10 b11 r12 n y13.fst.fst y13.fst.snd (!y14.fst) 0
  else law11_open_l4 n s0 b1 j2 s3 s4 b5 r6 s7 b8 j9 s10 b11 r12 n y13.fst.fst y13.fst.snd false 0 := by kernel_rfl
theorem law11_open_c (n : Nat) (s0 : ByteArray) (b1 : Bool) (j2 : Int) (s3 : ByteArray) (s4 : ByteArray) (b5 : Bool) (r6 : Rows) (s7 : ByteArray) (b8 : Bool) (j9 : Int) (s10 : ByteArray) (b11 : Bool) (r12 : Rows) (y : Bool × Unit) (h : law11_open_v n s0 b1 j2 s3 s4 b5 r6 s7 b8 j9 s10 b11 r12 = some y) : Contract Try.prog 26 [AV.agg [AV.dv (DV.val (Value.string s0)), AV.dv (DV.val (Value.bool b1)), AV.dv (DV.val (Value.int IntKind.i64 j2)), AV.dv (DV.val (Value.string s3)), AV.dv (DV.val (Value.string s4)), AV.sl b5 [Kd.s, Kd.b, Kd.i IntKind.i64, Kd.s] r6 Right.no, AV.dv (DV.val (Value.string s7)), AV.dv (DV.val (Value.bool b8)), AV.dv (DV.val (Value.int IntKind.i64 j9)), AV.dv (DV.val (Value.string s10)), AV.sl b11 [Kd.s, Kd.b, Kd.i IntKind.i64, Kd.s, Kd.s, Kd.sl [Kd.s, Kd.b, Kd.i IntKind.i64, Kd.s], Kd.s, Kd.b, Kd.i IntKind.i64, Kd.s] r12 Right.no]] [] (OSh.enc (OSh.plain (.b) []) y) :=
  auto_okM tm_std (with_ok mixed (by kernel_rfl) (law11_open_σok n) n 0 [1000053]) (with_pick mixed (by kernel_rfl) (law11_open_σok n) n 0 [1000053]) mixed Try.func26 (by decide) (o := (OSh.plain (.b) [])) h
/-! match_Literal: function 16 -/
def match_Literal_lv : Live := [(10, [3, 6, 10, 61, 62, 63], [6, 1000, 1001, 1002, 1003])]
noncomputable def match_Literal_σ (n : Nat) : Spec := (inst 34 [.agg [.s, .b, .i IntKind.i64, .s], .agg [.s, .b, .i IntKind.i64, .s]] [] (OSh.plain (.agg [.s, .b, .i IntKind.i64, .s]) []) (fun x e => match_or_v n x.1.1 x.1.2.1 x.1.2.2.1 x.1.2.2.2.1 x.2.1.1 x.2.1.2.1 x.2.1.2.2.1 x.2.1.2.2.2.1) (inst 35 [.s] [] (OSh.plain (.agg [.b, .i IntKind.i64, .s]) []) (fun x e => match_text_v n x.1) (inst 12 [.agg [.s, .b, .i IntKind.i64, .s], .agg [.b, .i IntKind.i64, .s], .sl [Kd.s, Kd.b, Kd.i IntKind.i64, Kd.s]] [] (OSh.plain (.tup [.slt [Kd.s, Kd.b, Kd.i IntKind.i64, Kd.s] 0, .b]) []) (fun x e => match_Unify_v n x.1.1 x.1.2.1 x.1.2.2.1 x.1.2.2.2.1 x.2.1.1 x.2.1.2.1 x.2.1.2.2.1 x.2.2.1.1 x.2.2.1.2) Spec.none)))
theorem match_Literal_σok (n : Nat) : SpecOk Try.prog (match_Literal_σ n) := (inst_ok (fun x e y h => match_or_c n x.1.1 x.1.2.1 x.1.2.2.1 x.1.2.2.2.1 x.2.1.1 x.2.1.2.1 x.2.1.2.2.1 x.2.1.2.2.2.1 y h) (inst_ok (fun x e y h => match_text_c n x.1 y h) (inst_ok (fun x e y h => match_Unify_c n x.1.1 x.1.2.1 x.1.2.2.1 x.1.2.2.2.1 x.2.1.1 x.2.1.2.1 x.2.1.2.2.1 x.2.2.1.1 x.2.2.1.2 y h) (SpecOk.none _))))
noncomputable def match_Literal_Φ (n : Nat) : Orc := with_ Try.prog (match_Literal_σ n) [] n 0 [1000053]
noncomputable def match_Literal_v (n : Nat) (s0 : ByteArray) (b1 : Bool) (j2 : Int) (s3 : ByteArray) (s4 : ByteArray) (b5 : Bool) (j6 : Int) (s7 : ByteArray) (s8 : ByteArray) (b9 : Bool) (r10 : Rows) (s11 : ByteArray) (b12 : Bool) (j13 : Int) (s14 : ByteArray) (s15 : ByteArray) (s16 : ByteArray) (s17 : ByteArray) (b18 : Bool) (r19 : Rows) (b20 : Bool) (r21 : Rows) : Option (((Bool × Rows) × Bool × Unit) × Unit) :=
  DM.denFn tm (match_Literal_Φ n) match_Literal_lv n Try.f16 true [AV.agg [AV.dv (DV.val (Value.string s0)), AV.dv (DV.val (Value.bool b1)), AV.dv (DV.val (Value.int IntKind.i64 j2)), AV.dv (DV.val (Value.string s3))], AV.agg [AV.dv (DV.val (Value.string s4)), AV.dv (DV.val (Value.bool b5)), AV.dv (DV.val (Value.int IntKind.i64 j6)), AV.dv (DV.val (Value.string s7)), AV.dv (DV.val (Value.string s8)), AV.sl b9 [Kd.s, Kd.b, Kd.i IntKind.i64, Kd.s] r10 Right.no, AV.dv (DV.val (Value.string s11)), AV.dv (DV.val (Value.bool b12)), AV.dv (DV.val (Value.int IntKind.i64 j13)), AV.dv (DV.val (Value.string s14))], AV.agg [AV.dv (DV.val (Value.string s15)), AV.dv (DV.val (Value.string s16)), AV.dv (DV.val (Value.string s17)), AV.sl b18 [Kd.b, Kd.i IntKind.i64, Kd.s] r19 Right.no], AV.sl b20 [Kd.s, Kd.b, Kd.i IntKind.i64, Kd.s] r21 Right.no] [] (OSh.chk (OSh.plain (.tup [.slt [Kd.s, Kd.b, Kd.i IntKind.i64, Kd.s] 0, .b]) []))
noncomputable def match_Literal_l10 (n : Nat) (s0 : ByteArray) (b1 : Bool) (j2 : Int) (s3 : ByteArray) (s4 : ByteArray) (b5 : Bool) (j6 : Int) (s7 : ByteArray) (s8 : ByteArray) (b9 : Bool) (r10 : Rows) (s11 : ByteArray) (b12 : Bool) (j13 : Int) (s14 : ByteArray) (s15 : ByteArray) (s16 : ByteArray) (s17 : ByteArray) (b18 : Bool) (r19 : Rows) (b20 : Bool) (r21 : Rows) (i0 : Nat) (b27 : Bool) (r28 : List (List DV)) (b29 : Bool) (j31 : Int) : Option (((Bool × Rows) × Bool × Unit) × Unit) :=
  DM.loopFn tm (match_Literal_Φ n) match_Literal_lv n Try.f16 true [] (OSh.chk (OSh.plain (.tup [.slt [Kd.s, Kd.b, Kd.i IntKind.i64, Kd.s] 0, .b]) [])) 10 [] i0 (St.mk [AV.junk, AV.junk, AV.junk, AV.sl b27 [Kd.s, Kd.b, Kd.i IntKind.i64, Kd.s] r28 (Right.tok 3), AV.junk, AV.junk, AV.pl 6 0, AV.junk, AV.junk, AV.junk, AV.dv (DV.val (Value.bool b29)), AV.junk, AV.junk, AV.junk, AV.junk, AV.junk, AV.junk, AV.junk, AV.junk, AV.junk, AV.junk, AV.junk, AV.junk, AV.junk, AV.junk, AV.junk, AV.junk, AV.junk, AV.junk, AV.junk, AV.junk, AV.junk, AV.junk, AV.junk, AV.junk, AV.junk, AV.junk, AV.junk, AV.junk, AV.junk, AV.junk, AV.junk, AV.junk, AV.junk, AV.junk, AV.junk, AV.junk, AV.junk, AV.junk, AV.junk, AV.junk, AV.junk, AV.junk, AV.junk, AV.junk, AV.junk, AV.junk, AV.junk, AV.junk, AV.junk, AV.junk, AV.sl b9 [Kd.s, Kd.b, Kd.i IntKind.i64, Kd.s] r10 Right.no, AV.dv (DV.val (Value.int IntKind.i64 (↑(List.length r10) : Int))), AV.dv (DV.val (Value.int IntKind.i64 j31)), AV.junk, AV.junk, AV.junk, AV.junk, AV.junk, AV.junk, AV.junk, AV.junk, AV.junk, AV.junk, AV.junk, AV.junk, AV.junk, AV.junk, AV.junk, AV.junk, AV.junk, AV.junk, AV.junk, AV.junk, AV.junk] [(6, [AV.dv (DV.val (Value.string s15)), AV.dv (DV.val (Value.string s16)), AV.dv (DV.val (Value.string s17)), AV.sl b18 [Kd.b, Kd.i IntKind.i64, Kd.s] r19 Right.no])])
theorem match_Literal_s10 (n : Nat) (s0 : ByteArray) (b1 : Bool) (j2 : Int) (s3 : ByteArray) (s4 : ByteArray) (b5 : Bool) (j6 : Int) (s7 : ByteArray) (s8 : ByteArray) (b9 : Bool) (r10 : Rows) (s11 : ByteArray) (b12 : Bool) (j13 : Int) (s14 : ByteArray) (s15 : ByteArray) (s16 : ByteArray) (s17 : ByteArray) (b18 : Bool) (r19 : Rows) (b20 : Bool) (r21 : Rows) (i0 : Nat) (b27 : Bool) (r28 : List (List DV)) (b29 : Bool) (j31 : Int) : match_Literal_l10 n s0 b1 j2 s3 s4 b5 j6 s7 s8 b9 r10 s11 b12 j13 s14 s15 s16 s17 b18 r19 b20 r21 (i0 + 1) b27 r28 b29 j31 =
  bif decide (j31 < (↑(List.length r10) : Int)) then
    if 0 ≤ j31 then
      if j31 < (↑(List.length r10) : Int) then
        bif !b29 then
          bif !b29 then
            some (((true, []), (false, ())), ())
          else some (((b27, r28), (true, ())), ())
        else if 0 ≤ j31 then
          if j31 < (↑(List.length r19) : Int) then
            obind (match_Unify_v n (Row.S (List.getD r10 (Int.toNat j31) []) 0) (Row.B (List.getD r10 (Int.toNat j31) []) 1) (Row.I (List.getD r10 (Int.toNat j31) []) 2) (Row.S (List.getD r10 (Int.toNat j31) []) 3) (Row.B (List.getD r19 (Int.toNat j31) []) 0) (Row.I (List.getD r19 (Int.toNat j31) []) 1) (Row.S (List.getD r19 (Int.toNat j31) []) 2) b27 r28) fun y32 =>
            match_Literal_l10 n s0 b1 j2 s3 s4 b5 j6 s7 s8 b9 r10 s11 b12 j13 s14 s15 s16 s17 b18 r19 b20 r21 i0 y32.fst.fst.fst y32.fst.fst.snd y32.fst.snd.fst (IntKind.wrap IntKind.i64 (j31 + 1))
          else none
        else none
      else none
    else none
  else bif !b29 then
    some (((true, []), (false, ())), ())
  else some (((b27, r28), (true, ())), ()) := by kernel_rfl
theorem match_Literal_e (n : Nat) (s0 : ByteArray) (b1 : Bool) (j2 : Int) (s3 : ByteArray) (s4 : ByteArray) (b5 : Bool) (j6 : Int) (s7 : ByteArray) (s8 : ByteArray) (b9 : Bool) (r10 : Rows) (s11 : ByteArray) (b12 : Bool) (j13 : Int) (s14 : ByteArray) (s15 : ByteArray) (s16 : ByteArray) (s17 : ByteArray) (b18 : Bool) (r19 : Rows) (b20 : Bool) (r21 : Rows) : match_Literal_v n s0 b1 j2 s3 s4 b5 j6 s7 s8 b9 r10 s11 b12 j13 s14 s15 s16 s17 b18 r19 b20 r21 =
  bif !s8 == s17 then
    some (((true, []), (false, ())), ())
  else bif (↑(List.length r10) : Int) != (↑(List.length r19) : Int) then
    some (((true, []), (false, ())), ())
  else obind (match_or_v n s11 b12 j13 s14 s0 b1 j2 s3) fun y22 =>
  obind (match_text_v n s15) fun y23 =>
  obind (match_Unify_v n y22.fst.fst y22.fst.snd.fst y22.fst.snd.snd.fst y22.fst.snd.snd.snd.fst y23.fst.fst y23.fst.snd.fst y23.fst.snd.snd.fst b20 r21) fun y24 =>
  bif !y24.fst.snd.fst then
    some (((true, []), (false, ())), ())
  else bif s4 == ByteArray.mk #[] && (b5 == false && (j6 == 0 && (s7 == ByteArray.mk #[] && true))) then
    match_Literal_l10 n s0 b1 j2 s3 s4 b5 j6 s7 s8 b9 r10 s11 b12 j13 s14 s15 s16 s17 b18 r19 b20 r21 n y24.fst.fst.fst y24.fst.fst.snd (s16 == s15) 0
  else obind (match_text_v n s16) fun y25 =>
  obind (match_Unify_v n s4 b5 j6 s7 y25.fst.fst y25.fst.snd.fst y25.fst.snd.snd.fst y24.fst.fst.fst y24.fst.fst.snd) fun y26 =>
  match_Literal_l10 n s0 b1 j2 s3 s4 b5 j6 s7 s8 b9 r10 s11 b12 j13 s14 s15 s16 s17 b18 r19 b20 r21 n y26.fst.fst.fst y26.fst.fst.snd y26.fst.snd.fst 0 := by kernel_rfl
theorem match_Literal_c (n : Nat) (s0 : ByteArray) (b1 : Bool) (j2 : Int) (s3 : ByteArray) (s4 : ByteArray) (b5 : Bool) (j6 : Int) (s7 : ByteArray) (s8 : ByteArray) (b9 : Bool) (r10 : Rows) (s11 : ByteArray) (b12 : Bool) (j13 : Int) (s14 : ByteArray) (s15 : ByteArray) (s16 : ByteArray) (s17 : ByteArray) (b18 : Bool) (r19 : Rows) (b20 : Bool) (r21 : Rows) (y : ((Bool × Rows) × Bool × Unit) × Unit) (h : match_Literal_v n s0 b1 j2 s3 s4 b5 j6 s7 s8 b9 r10 s11 b12 j13 s14 s15 s16 s17 b18 r19 b20 r21 = some y) : Contract Try.prog 16 [AV.agg [AV.dv (DV.val (Value.string s0)), AV.dv (DV.val (Value.bool b1)), AV.dv (DV.val (Value.int IntKind.i64 j2)), AV.dv (DV.val (Value.string s3))], AV.agg [AV.dv (DV.val (Value.string s4)), AV.dv (DV.val (Value.bool b5)), AV.dv (DV.val (Value.int IntKind.i64 j6)), AV.dv (DV.val (Value.string s7)), AV.dv (DV.val (Value.string s8)), AV.sl b9 [Kd.s, Kd.b, Kd.i IntKind.i64, Kd.s] r10 Right.no, AV.dv (DV.val (Value.string s11)), AV.dv (DV.val (Value.bool b12)), AV.dv (DV.val (Value.int IntKind.i64 j13)), AV.dv (DV.val (Value.string s14))], AV.agg [AV.dv (DV.val (Value.string s15)), AV.dv (DV.val (Value.string s16)), AV.dv (DV.val (Value.string s17)), AV.sl b18 [Kd.b, Kd.i IntKind.i64, Kd.s] r19 Right.no], AV.sl b20 [Kd.s, Kd.b, Kd.i IntKind.i64, Kd.s] r21 Right.no] [] (OSh.enc (OSh.plain (.tup [.slt [Kd.s, Kd.b, Kd.i IntKind.i64, Kd.s] 0, .b]) []) y) :=
  auto_okM tm_std (with_ok mixed (by kernel_rfl) (match_Literal_σok n) n 0 [1000053]) (with_pick mixed (by kernel_rfl) (match_Literal_σok n) n 0 [1000053]) mixed Try.func16 (by decide) (o := (OSh.plain (.tup [.slt [Kd.s, Kd.b, Kd.i IntKind.i64, Kd.s] 0, .b]) [])) h
/-! cmp_isNaN: function 51 -/
def cmp_isNaN_lv : Live := []
noncomputable def cmp_isNaN_σ (n : Nat) : Spec := Spec.none
theorem cmp_isNaN_σok (n : Nat) : SpecOk Try.prog (cmp_isNaN_σ n) := (SpecOk.none _)
noncomputable def cmp_isNaN_Φ (n : Nat) : Orc := with_ Try.prog (cmp_isNaN_σ n) [] n 0 [1000053]
noncomputable def cmp_isNaN_v (n : Nat) (s0 : ByteArray) : Option (Bool × Unit) :=
  DM.denFn tm (cmp_isNaN_Φ n) cmp_isNaN_lv n Try.f51 false [AV.dv (DV.val (Value.string s0))] [] (OSh.chk (OSh.plain (.b) []))
theorem cmp_isNaN_e (n : Nat) (s0 : ByteArray) : cmp_isNaN_v n s0 =
  some (!s0 == s0, ()) := by kernel_rfl
theorem cmp_isNaN_c (n : Nat) (s0 : ByteArray) (y : Bool × Unit) (h : cmp_isNaN_v n s0 = some y) : Contract Try.prog 51 [AV.dv (DV.val (Value.string s0))] [] (OSh.enc (OSh.plain (.b) []) y) :=
  auto_okM tm_std (with_ok mixed (by kernel_rfl) (cmp_isNaN_σok n) n 0 [1000053]) (with_pick mixed (by kernel_rfl) (cmp_isNaN_σok n) n 0 [1000053]) mixed Try.func51 (by decide) (o := (OSh.plain (.b) [])) h
/-! cmp_Compare: function 47 -/
def cmp_Compare_lv : Live := []
noncomputable def cmp_Compare_σ (n : Nat) : Spec := (inst 51 [.s] [] (OSh.plain (.b) []) (fun x e => cmp_isNaN_v n x.1) Spec.none)
theorem cmp_Compare_σok (n : Nat) : SpecOk Try.prog (cmp_Compare_σ n) := (inst_ok (fun x e y h => cmp_isNaN_c n x.1 y h) (SpecOk.none _))
noncomputable def cmp_Compare_Φ (n : Nat) : Orc := with_ Try.prog (cmp_Compare_σ n) [] n 0 [1000053]
noncomputable def cmp_Compare_v (n : Nat) (s0 : ByteArray) (s1 : ByteArray) : Option (Int × Unit) :=
  DM.denFn tm (cmp_Compare_Φ n) cmp_Compare_lv n Try.f47 false [AV.dv (DV.val (Value.string s0)), AV.dv (DV.val (Value.string s1))] [] (OSh.chk (OSh.plain (.i IntKind.i64) []))
theorem cmp_Compare_e (n : Nat) (s0 : ByteArray) (s1 : ByteArray) : cmp_Compare_v n s0 s1 =
  obind (cmp_isNaN_v n s0) fun y2 =>
  obind (cmp_isNaN_v n s1) fun y3 =>
  bif y2.fst then
    bif y3.fst then
      some (0, ())
    else some (-1, ())
  else bif y3.fst then
    some (1, ())
  else bif Op.bytesLess (ByteArray.toList s0) (ByteArray.toList s1) then
    some (-1, ())
  else bif !(Op.bytesLess (ByteArray.toList s0) (ByteArray.toList s1) || s0 == s1) then
    some (1, ())
  else some (0, ()) := by kernel_rfl
theorem cmp_Compare_c (n : Nat) (s0 : ByteArray) (s1 : ByteArray) (y : Int × Unit) (h : cmp_Compare_v n s0 s1 = some y) : Contract Try.prog 47 [AV.dv (DV.val (Value.string s0)), AV.dv (DV.val (Value.string s1))] [] (OSh.enc (OSh.plain (.i IntKind.i64) []) y) :=
  auto_okM tm_std (with_ok mixed (by kernel_rfl) (cmp_Compare_σok n) n 0 [1000053]) (with_pick mixed (by kernel_rfl) (cmp_Compare_σok n) n 0 [1000053]) mixed Try.func47 (by decide) (o := (OSh.plain (.i IntKind.i64) [])) h
/-! cmp_isNaN_i2: function 54 -/
def cmp_isNaN_i2_lv : Live := []
noncomputable def cmp_isNaN_i2_σ (n : Nat) : Spec := Spec.none
theorem cmp_isNaN_i2_σok (n : Nat) : SpecOk Try.prog (cmp_isNaN_i2_σ n) := (SpecOk.none _)
noncomputable def cmp_isNaN_i2_Φ (n : Nat) : Orc := with_ Try.prog (cmp_isNaN_i2_σ n) [] n 0 [1000053]
noncomputable def cmp_isNaN_i2_v (n : Nat) (j0 : Int) : Option (Bool × Unit) :=
  DM.denFn tm (cmp_isNaN_i2_Φ n) cmp_isNaN_i2_lv n Try.f54 false [AV.dv (DV.val (Value.int IntKind.i64 j0))] [] (OSh.chk (OSh.plain (.b) []))
theorem cmp_isNaN_i2_e (n : Nat) (j0 : Int) : cmp_isNaN_i2_v n j0 =
  some (j0 != j0, ()) := by kernel_rfl
theorem cmp_isNaN_i2_c (n : Nat) (j0 : Int) (y : Bool × Unit) (h : cmp_isNaN_i2_v n j0 = some y) : Contract Try.prog 54 [AV.dv (DV.val (Value.int IntKind.i64 j0))] [] (OSh.enc (OSh.plain (.b) []) y) :=
  auto_okM tm_std (with_ok mixed (by kernel_rfl) (cmp_isNaN_i2_σok n) n 0 [1000053]) (with_pick mixed (by kernel_rfl) (cmp_isNaN_i2_σok n) n 0 [1000053]) mixed Try.func54 (by decide) (o := (OSh.plain (.b) [])) h
/-! cmp_Compare_i2: function 52 -/
def cmp_Compare_i2_lv : Live := []
noncomputable def cmp_Compare_i2_σ (n : Nat) : Spec := (inst 54 [.i IntKind.i64] [] (OSh.plain (.b) []) (fun x e => cmp_isNaN_i2_v n x.1) Spec.none)
theorem cmp_Compare_i2_σok (n : Nat) : SpecOk Try.prog (cmp_Compare_i2_σ n) := (inst_ok (fun x e y h => cmp_isNaN_i2_c n x.1 y h) (SpecOk.none _))
noncomputable def cmp_Compare_i2_Φ (n : Nat) : Orc := with_ Try.prog (cmp_Compare_i2_σ n) [] n 0 [1000053]
noncomputable def cmp_Compare_i2_v (n : Nat) (j0 : Int) (j1 : Int) : Option (Int × Unit) :=
  DM.denFn tm (cmp_Compare_i2_Φ n) cmp_Compare_i2_lv n Try.f52 false [AV.dv (DV.val (Value.int IntKind.i64 j0)), AV.dv (DV.val (Value.int IntKind.i64 j1))] [] (OSh.chk (OSh.plain (.i IntKind.i64) []))
theorem cmp_Compare_i2_e (n : Nat) (j0 : Int) (j1 : Int) : cmp_Compare_i2_v n j0 j1 =
  obind (cmp_isNaN_i2_v n j0) fun y2 =>
  obind (cmp_isNaN_i2_v n j1) fun y3 =>
  bif y2.fst then
    bif y3.fst then
      some (0, ())
    else some (-1, ())
  else bif y3.fst then
    some (1, ())
  else bif decide (j0 < j1) then
    some (-1, ())
  else bif decide (j0 > j1) then
    some (1, ())
  else some (0, ()) := by kernel_rfl
theorem cmp_Compare_i2_c (n : Nat) (j0 : Int) (j1 : Int) (y : Int × Unit) (h : cmp_Compare_i2_v n j0 j1 = some y) : Contract Try.prog 52 [AV.dv (DV.val (Value.int IntKind.i64 j0)), AV.dv (DV.val (Value.int IntKind.i64 j1))] [] (OSh.enc (OSh.plain (.i IntKind.i64) []) y) :=
  auto_okM tm_std (with_ok mixed (by kernel_rfl) (cmp_Compare_i2_σok n) n 0 [1000053]) (with_pick mixed (by kernel_rfl) (cmp_Compare_i2_σok n) n 0 [1000053]) mixed Try.func52 (by decide) (o := (OSh.plain (.i IntKind.i64) [])) h
/-! cmp_Or: function 46 -/
def cmp_Or_lv : Live := [(3, [3, 6, 7, 8], [1000, 1001, 1002, 1003])]
noncomputable def cmp_Or_σ (n : Nat) : Spec := Spec.none
theorem cmp_Or_σok (n : Nat) : SpecOk Try.prog (cmp_Or_σ n) := (SpecOk.none _)
noncomputable def cmp_Or_Φ (n : Nat) : Orc := with_ Try.prog (cmp_Or_σ n) [] n 0 [1000053]
noncomputable def cmp_Or_v (n : Nat) (b0 : Bool) (r1 : Rows) : Option (Int × Unit) :=
  DM.denFn tm (cmp_Or_Φ n) cmp_Or_lv n Try.f46 false [AV.sl b0 [Kd.i IntKind.i64] r1 Right.no] [] (OSh.chk (OSh.plain (.i IntKind.i64) []))
noncomputable def cmp_Or_l3 (n : Nat) (b0 : Bool) (r1 : Rows) (i0 : Nat) (j2 : Int) : Option (Int × Unit) :=
  DM.loopFn tm (cmp_Or_Φ n) cmp_Or_lv n Try.f46 false [] (OSh.chk (OSh.plain (.i IntKind.i64) [])) 3 [] i0 (St.mk [AV.junk, AV.junk, AV.junk, AV.dv (DV.val (Value.int IntKind.i64 0)), AV.junk, AV.junk, AV.sl b0 [Kd.i IntKind.i64] r1 Right.no, AV.dv (DV.val (Value.int IntKind.i64 (↑(List.length r1) : Int))), AV.dv (DV.val (Value.int IntKind.i64 j2)), AV.junk, AV.junk, AV.junk, AV.junk, AV.junk, AV.junk, AV.junk, AV.junk, AV.junk] [])
theorem cmp_Or_s3 (n : Nat) (b0 : Bool) (r1 : Rows) (i0 : Nat) (j2 : Int) : cmp_Or_l3 n b0 r1 (i0 + 1) j2 =
  bif decide (j2 < (↑(List.length r1) : Int)) then
    if 0 ≤ j2 then
      if j2 < (↑(List.length r1) : Int) then
        bif Row.I (List.getD r1 (Int.toNat j2) []) 0 != 0 then
          some (Row.I (List.getD r1 (Int.toNat j2) []) 0, ())
        else cmp_Or_l3 n b0 r1 i0 (IntKind.wrap IntKind.i64 (j2 + 1))
      else none
    else none
  else some (0, ()) := by kernel_rfl
theorem cmp_Or_e (n : Nat) (b0 : Bool) (r1 : Rows) : cmp_Or_v n b0 r1 =
  cmp_Or_l3 n b0 r1 n 0 := by kernel_rfl
theorem cmp_Or_c (n : Nat) (b0 : Bool) (r1 : Rows) (y : Int × Unit) (h : cmp_Or_v n b0 r1 = some y) : Contract Try.prog 46 [AV.sl b0 [Kd.i IntKind.i64] r1 Right.no] [] (OSh.enc (OSh.plain (.i IntKind.i64) []) y) :=
  auto_okM tm_std (with_ok mixed (by kernel_rfl) (cmp_Or_σok n) n 0 [1000053]) (with_pick mixed (by kernel_rfl) (cmp_Or_σok n) n 0 [1000053]) mixed Try.func46 (by decide) (o := (OSh.plain (.i IntKind.i64) [])) h
/-! fact_Compare: function 49 -/
def fact_Compare_lv : Live := []
noncomputable def fact_Compare_σ (n : Nat) : Spec := (inst 52 [.i IntKind.i64, .i IntKind.i64] [] (OSh.plain (.i IntKind.i64) []) (fun x e => cmp_Compare_i2_v n x.1 x.2.1) (inst 47 [.s, .s] [] (OSh.plain (.i IntKind.i64) []) (fun x e => cmp_Compare_v n x.1 x.2.1) (inst 46 [.sl [Kd.i IntKind.i64]] [] (OSh.plain (.i IntKind.i64) []) (fun x e => cmp_Or_v n x.1.1 x.1.2) Spec.none)))
theorem fact_Compare_σok (n : Nat) : SpecOk Try.prog (fact_Compare_σ n) := (inst_ok (fun x e y h => cmp_Compare_i2_c n x.1 x.2.1 y h) (inst_ok (fun x e y h => cmp_Compare_c n x.1 x.2.1 y h) (inst_ok (fun x e y h => cmp_Or_c n x.1.1 x.1.2 y h) (SpecOk.none _))))
noncomputable def fact_Compare_Φ (n : Nat) : Orc := with_ Try.prog (fact_Compare_σ n) [] n 0 [1000053]
noncomputable def fact_Compare_v (n : Nat) (b0 : Bool) (j1 : Int) (s2 : ByteArray) (b3 : Bool) (j4 : Int) (s5 : ByteArray) : Option (Int × Unit) :=
  DM.denFn tm (fact_Compare_Φ n) fact_Compare_lv n Try.f49 false [AV.agg [AV.dv (DV.val (Value.bool b0)), AV.dv (DV.val (Value.int IntKind.i64 j1)), AV.dv (DV.val (Value.string s2))], AV.agg [AV.dv (DV.val (Value.bool b3)), AV.dv (DV.val (Value.int IntKind.i64 j4)), AV.dv (DV.val (Value.string s5))]] [] (OSh.chk (OSh.plain (.i IntKind.i64) []))
theorem fact_Compare_e (n : Nat) (b0 : Bool) (j1 : Int) (s2 : ByteArray) (b3 : Bool) (j4 : Int) (s5 : ByteArray) : fact_Compare_v n b0 j1 s2 b3 j4 s5 =
  bif !b0 == b3 then
    bif b0 then
      some (-1, ())
    else some (1, ())
  else obind (cmp_Compare_i2_v n j1 j4) fun y6 =>
  obind (cmp_Compare_v n s2 s5) fun y7 =>
  obind (cmp_Or_v n false ([[DV.val (Value.int IntKind.i64 y6.fst)], [DV.val (Value.int IntKind.i64 y7.fst)]])) fun y8 =>
  some (y8.fst, ()) := by kernel_rfl
theorem fact_Compare_c (n : Nat) (b0 : Bool) (j1 : Int) (s2 : ByteArray) (b3 : Bool) (j4 : Int) (s5 : ByteArray) (y : Int × Unit) (h : fact_Compare_v n b0 j1 s2 b3 j4 s5 = some y) : Contract Try.prog 49 [AV.agg [AV.dv (DV.val (Value.bool b0)), AV.dv (DV.val (Value.int IntKind.i64 j1)), AV.dv (DV.val (Value.string s2))], AV.agg [AV.dv (DV.val (Value.bool b3)), AV.dv (DV.val (Value.int IntKind.i64 j4)), AV.dv (DV.val (Value.string s5))]] [] (OSh.enc (OSh.plain (.i IntKind.i64) []) y) :=
  auto_okM tm_std (with_ok mixed (by kernel_rfl) (fact_Compare_σok n) n 0 [1000053]) (with_pick mixed (by kernel_rfl) (fact_Compare_σok n) n 0 [1000053]) mixed Try.func49 (by decide) (o := (OSh.plain (.i IntKind.i64) [])) h
end Go.Den
