import Derived.Test.YtlpnccpagikioaaDoorZ03
import Derived.Shelf.Strconv.Itoa3
import Derived.Test.YtlpnccpagikioaaDoorProg
import Derived.Shelf.RegionOpenPlain
import Derived.Lib.Strings
import Derived.Lib.Slices
import Derived.Lib.Walk
import Derived.Lib.Builder
import Derived.Lib.AppendStr
import Derived.Lib.UnsafeStr
import Derived.WalkKit
import Derived.BigCall
import Derived.Laws.Externs
import Derived.Laws.IdiomCopy
set_option linter.unusedVariables false
set_option linter.unusedSimpArgs false
set_option linter.unusedSectionVars false
namespace Go.Den
open Go.Proofs
set_option maxRecDepth 100000
/-! ref05_Weight: function 15 -/
def ref05_Weight_lv : Live := [(3, [0, 1, 5, 6], [1000, 1001, 1002, 1003]), (7, [0, 1, 5, 6, 7], [1000, 1001, 1002, 1003])]
noncomputable def ref05_Weight_σ (n : Nat) : Spec := Spec.none
theorem ref05_Weight_σok (n : Nat) : SpecOk Tryd.prog (ref05_Weight_σ n) := (SpecOk.none _)
noncomputable def ref05_Weight_Φ (n : Nat) : Orc := with_ Tryd.prog (ref05_Weight_σ n) [] n 0 [1000042, 1000043, 1000044, 1000045, 1000046, 1000059, 1000067]
noncomputable def ref05_Weight_v (n : Nat) (b0 : Bool) (r1 : Rows) (j2 : Int) : Option (Int × Unit) :=
  DM.denFn tm (ref05_Weight_Φ n) ref05_Weight_lv n Tryd.f15 false [AV.sl b0 [Kd.s, Kd.b, Kd.i IntKind.i64, Kd.s, Kd.s, Kd.sl [Kd.s, Kd.b, Kd.i IntKind.i64, Kd.s], Kd.s, Kd.b, Kd.i IntKind.i64, Kd.s, Kd.sl [Kd.s, Kd.b, Kd.i IntKind.i64, Kd.s, Kd.s, Kd.sl [Kd.s, Kd.b, Kd.i IntKind.i64, Kd.s], Kd.s, Kd.b, Kd.i IntKind.i64, Kd.s]] r1 Right.no, AV.dv (DV.val (Value.int IntKind.i64 j2))] [] (OSh.chk (OSh.plain (.i IntKind.i64) []))
noncomputable def ref05_Weight_l3 (n : Nat) (b0 : Bool) (r1 : Rows) (j2 : Int) (i0 : Nat) (j5 : Int) (j6 : Int) : Option (Int × Unit) :=
  DM.loopFn tm (ref05_Weight_Φ n) ref05_Weight_lv n Tryd.f15 false [] (OSh.chk (OSh.plain (.i IntKind.i64) [])) 3 [] i0 (St.mk [AV.sl b0 [Kd.s, Kd.b, Kd.i IntKind.i64, Kd.s, Kd.s, Kd.sl [Kd.s, Kd.b, Kd.i IntKind.i64, Kd.s], Kd.s, Kd.b, Kd.i IntKind.i64, Kd.s, Kd.sl [Kd.s, Kd.b, Kd.i IntKind.i64, Kd.s, Kd.s, Kd.sl [Kd.s, Kd.b, Kd.i IntKind.i64, Kd.s], Kd.s, Kd.b, Kd.i IntKind.i64, Kd.s]] r1 Right.no, AV.dv (DV.val (Value.int IntKind.i64 j2)), AV.junk, AV.junk, AV.junk, AV.dv (DV.val (Value.int IntKind.i64 j5)), AV.dv (DV.val (Value.int IntKind.i64 j6)), AV.junk, AV.junk, AV.junk, AV.junk, AV.junk, AV.junk, AV.junk, AV.junk, AV.junk, AV.junk, AV.junk, AV.junk, AV.junk, AV.junk, AV.junk, AV.junk, AV.junk, AV.junk, AV.junk, AV.junk, AV.junk, AV.junk, AV.junk, AV.junk, AV.junk, AV.junk, AV.junk, AV.junk, AV.junk, AV.junk, AV.junk, AV.junk, AV.junk, AV.junk, AV.junk, AV.junk, AV.junk, AV.junk, AV.junk, AV.junk, AV.junk, AV.junk, AV.junk, AV.junk, AV.junk, AV.junk, AV.junk, AV.junk, AV.junk, AV.junk, AV.junk, AV.junk, AV.junk, AV.junk, AV.junk, AV.junk, AV.junk, AV.junk, AV.junk, AV.junk, AV.junk, AV.junk, AV.junk, AV.junk, AV.junk, AV.junk, AV.junk, AV.junk, AV.junk, AV.junk] [])
noncomputable def ref05_Weight_l7 (n : Nat) (b0 : Bool) (r1 : Rows) (j2 : Int) (i0 i1 : Nat) (j3 : Int) (j4 : Int) (j7 : Int) : Option (Int × Unit) :=
  DM.loopFn tm (ref05_Weight_Φ n) ref05_Weight_lv n Tryd.f15 false [] (OSh.chk (OSh.plain (.i IntKind.i64) [])) 7 [i0] i1 (St.mk [AV.sl b0 [Kd.s, Kd.b, Kd.i IntKind.i64, Kd.s, Kd.s, Kd.sl [Kd.s, Kd.b, Kd.i IntKind.i64, Kd.s], Kd.s, Kd.b, Kd.i IntKind.i64, Kd.s, Kd.sl [Kd.s, Kd.b, Kd.i IntKind.i64, Kd.s, Kd.s, Kd.sl [Kd.s, Kd.b, Kd.i IntKind.i64, Kd.s], Kd.s, Kd.b, Kd.i IntKind.i64, Kd.s]] r1 Right.no, AV.dv (DV.val (Value.int IntKind.i64 j2)), AV.junk, AV.junk, AV.junk, AV.dv (DV.val (Value.int IntKind.i64 j3)), AV.dv (DV.val (Value.int IntKind.i64 j7)), AV.dv (DV.val (Value.int IntKind.i64 j4)), AV.junk, AV.junk, AV.junk, AV.junk, AV.junk, AV.junk, AV.junk, AV.junk, AV.junk, AV.junk, AV.junk, AV.junk, AV.junk, AV.junk, AV.junk, AV.junk, AV.junk, AV.junk, AV.junk, AV.junk, AV.junk, AV.junk, AV.junk, AV.junk, AV.junk, AV.junk, AV.junk, AV.junk, AV.junk, AV.junk, AV.junk, AV.junk, AV.junk, AV.junk, AV.junk, AV.junk, AV.junk, AV.junk, AV.junk, AV.junk, AV.junk, AV.junk, AV.junk, AV.junk, AV.junk, AV.junk, AV.junk, AV.junk, AV.junk, AV.junk, AV.junk, AV.junk, AV.junk, AV.junk, AV.junk, AV.junk, AV.junk, AV.junk, AV.junk, AV.junk, AV.junk, AV.junk, AV.junk, AV.junk, AV.junk, AV.junk, AV.junk, AV.junk, AV.junk] [])
theorem ref05_Weight_s3 (n : Nat) (b0 : Bool) (r1 : Rows) (j2 : Int) (i0 : Nat) (j5 : Int) (j6 : Int) : ref05_Weight_l3 n b0 r1 j2 (i0 + 1) j5 j6 =
  bif decide (j6 < (↑(List.length r1) : Int)) then
    bif decide (j5 ≤ j2) then
      if 0 ≤ j6 then
        if j6 < (↑(List.length r1) : Int) then
          if 0 ≤ j6 then
            if j6 < (↑(List.length r1) : Int) then
              ref05_Weight_l7 n b0 r1 j2 i0 n (IntKind.wrap IntKind.i64 (j5 + IntKind.wrap IntKind.i64 (IntKind.wrap IntKind.i64 (1 + (↑(List.length (Row.R (List.getD r1 (Int.toNat j6) []) 5)) : Int)) + IntKind.wrap IntKind.i64 (Int.tdiv (↑(ByteArray.size (Row.S (List.getD r1 (Int.toNat j6) []) 4)) : Int) 16)))) 0 j6
            else none
          else none
        else none
      else none
    else some (j5, ())
  else some (j5, ()) := by kernel_rfl
theorem ref05_Weight_s7 (n : Nat) (b0 : Bool) (r1 : Rows) (j2 : Int) (i0 i1 : Nat) (j3 : Int) (j4 : Int) (j7 : Int) : ref05_Weight_l7 n b0 r1 j2 i0 (i1 + 1) j3 j4 j7 =
  if 0 ≤ j7 then
    if j7 < (↑(List.length r1) : Int) then
      bif decide (j4 < (↑(List.length (Row.R (List.getD r1 (Int.toNat j7) []) 10)) : Int)) then
        bif decide (j3 ≤ j2) then
          if 0 ≤ j7 then
            if j7 < (↑(List.length r1) : Int) then
              if 0 ≤ j4 then
                if j4 < (↑(List.length (Row.R (List.getD r1 (Int.toNat j7) []) 10)) : Int) then
                  if 0 ≤ j7 then
                    if j7 < (↑(List.length r1) : Int) then
                      if 0 ≤ j4 then
                        if j4 < (↑(List.length (Row.R (List.getD r1 (Int.toNat j7) []) 10)) : Int) then
                          ref05_Weight_l7 n b0 r1 j2 i0 i1 (IntKind.wrap IntKind.i64 (j3 + IntKind.wrap IntKind.i64 (IntKind.wrap IntKind.i64 (1 + (↑(List.length (Row.R (List.getD (Row.R (List.getD r1 (Int.toNat j7) []) 10) (Int.toNat j4) []) 5)) : Int)) + IntKind.wrap IntKind.i64 (Int.tdiv (↑(ByteArray.size (Row.S (List.getD (Row.R (List.getD r1 (Int.toNat j7) []) 10) (Int.toNat j4) []) 4)) : Int) 16)))) (IntKind.wrap IntKind.i64 (j4 + 1)) j7
                        else none
                      else none
                    else none
                  else none
                else none
              else none
            else none
          else none
        else ref05_Weight_l3 n b0 r1 j2 i0 j3 (IntKind.wrap IntKind.i64 (j7 + 1))
      else ref05_Weight_l3 n b0 r1 j2 i0 j3 (IntKind.wrap IntKind.i64 (j7 + 1))
    else none
  else none := by kernel_rfl
theorem ref05_Weight_e (n : Nat) (b0 : Bool) (r1 : Rows) (j2 : Int) : ref05_Weight_v n b0 r1 j2 =
  ref05_Weight_l3 n b0 r1 j2 n 0 0 := by kernel_rfl
theorem ref05_Weight_c (n : Nat) (b0 : Bool) (r1 : Rows) (j2 : Int) (y : Int × Unit) (h : ref05_Weight_v n b0 r1 j2 = some y) : Contract Tryd.prog 15 [AV.sl b0 [Kd.s, Kd.b, Kd.i IntKind.i64, Kd.s, Kd.s, Kd.sl [Kd.s, Kd.b, Kd.i IntKind.i64, Kd.s], Kd.s, Kd.b, Kd.i IntKind.i64, Kd.s, Kd.sl [Kd.s, Kd.b, Kd.i IntKind.i64, Kd.s, Kd.s, Kd.sl [Kd.s, Kd.b, Kd.i IntKind.i64, Kd.s], Kd.s, Kd.b, Kd.i IntKind.i64, Kd.s]] r1 Right.no, AV.dv (DV.val (Value.int IntKind.i64 j2))] [] (OSh.enc (OSh.plain (.i IntKind.i64) []) y) :=
  auto_okM tm_std (with_ok mixed (by kernel_rfl) (ref05_Weight_σok n) n 0 [1000042, 1000043, 1000044, 1000045, 1000046, 1000059, 1000067]) (with_pick mixed (by kernel_rfl) (ref05_Weight_σok n) n 0 [1000042, 1000043, 1000044, 1000045, 1000046, 1000059, 1000067]) mixed Tryd.func15 (by decide) (o := (OSh.plain (.i IntKind.i64) [])) h
/-! lex_blank: function 91 -/
def lex_blank_lv : Live := []
noncomputable def lex_blank_σ (n : Nat) : Spec := Spec.none
theorem lex_blank_σok (n : Nat) : SpecOk Tryd.prog (lex_blank_σ n) := (SpecOk.none _)
noncomputable def lex_blank_Φ (n : Nat) : Orc := with_ Tryd.prog (lex_blank_σ n) [] n 0 [1000042, 1000043, 1000044, 1000045, 1000046, 1000059, 1000067]
noncomputable def lex_blank_v (n : Nat) (j0 : Int) : Option (Bool × Unit) :=
  DM.denFn tm (lex_blank_Φ n) lex_blank_lv n Tryd.f91 false [AV.dv (DV.val (Value.int IntKind.u8 j0))] [] (OSh.chk (OSh.plain (.b) []))
theorem lex_blank_e (n : Nat) (j0 : Int) : lex_blank_v n j0 =
  bif j0 == 32 then
    some (true, ())
  else bif j0 == 9 then
    some (true, ())
  else bif j0 == 10 then
    some (true, ())
  else some (j0 == 13, ()) := by kernel_rfl
theorem lex_blank_c (n : Nat) (j0 : Int) (y : Bool × Unit) (h : lex_blank_v n j0 = some y) : Contract Tryd.prog 91 [AV.dv (DV.val (Value.int IntKind.u8 j0))] [] (OSh.enc (OSh.plain (.b) []) y) :=
  auto_okM tm_std (with_ok mixed (by kernel_rfl) (lex_blank_σok n) n 0 [1000042, 1000043, 1000044, 1000045, 1000046, 1000059, 1000067]) (with_pick mixed (by kernel_rfl) (lex_blank_σok n) n 0 [1000042, 1000043, 1000044, 1000045, 1000046, 1000059, 1000067]) mixed Tryd.func91 (by decide) (o := (OSh.plain (.b) [])) h
/-! lex_over: function 92 -/
def lex_over_lex_blank_lv : Live := [(1, [0, 1, 2], [1000, 1001, 1002, 1003])]
noncomputable def lex_over_lex_blank_σ (n : Nat) : Spec := (inst 91 [.i IntKind.u8] [] (OSh.plain (.b) []) (fun x e => lex_blank_v n x.1) Spec.none)
theorem lex_over_lex_blank_σok (n : Nat) : SpecOk Tryd.prog (lex_over_lex_blank_σ n) := (inst_ok (fun x e y h => lex_blank_c n x.1 y h) (SpecOk.none _))
noncomputable def lex_over_lex_blank_Φ (n : Nat) : Orc := with_ Tryd.prog (lex_over_lex_blank_σ n) [] n 0 [1000042, 1000043, 1000044, 1000045, 1000046, 1000059, 1000067]
noncomputable def lex_over_lex_blank_v (n : Nat) (s0 : ByteArray) (j1 : Int) : Option (Int × Unit) :=
  DM.denFn tm (lex_over_lex_blank_Φ n) lex_over_lex_blank_lv n Tryd.f92 false [AV.dv (DV.val (Value.string s0)), AV.dv (DV.val (Value.int IntKind.i64 j1)), AV.fn 91 []] [] (OSh.chk (OSh.plain (.i IntKind.i64) []))
noncomputable def lex_over_lex_blank_l1 (n : Nat) (s0 : ByteArray) (j1 : Int) (i0 : Nat) (j3 : Int) : Option (Int × Unit) :=
  DM.loopFn tm (lex_over_lex_blank_Φ n) lex_over_lex_blank_lv n Tryd.f92 false [] (OSh.chk (OSh.plain (.i IntKind.i64) [])) 1 [] i0 (St.mk [AV.dv (DV.val (Value.string s0)), AV.dv (DV.val (Value.int IntKind.i64 j3)), AV.fn 91 [], AV.junk, AV.junk, AV.junk, AV.junk, AV.junk, AV.junk, AV.junk, AV.junk, AV.junk, AV.junk, AV.junk, AV.junk, AV.junk, AV.junk, AV.junk, AV.junk, AV.junk, AV.junk] [])
theorem lex_over_lex_blank_s1 (n : Nat) (s0 : ByteArray) (j1 : Int) (i0 : Nat) (j3 : Int) : lex_over_lex_blank_l1 n s0 j1 (i0 + 1) j3 =
  bif decide (j3 < (↑(ByteArray.size s0) : Int)) then
    if 0 ≤ j3 then
      if j3 < (↑(ByteArray.size s0) : Int) then
        obind (lex_blank_v n (bt s0 j3)) fun y4 =>
        bif y4.fst then
          lex_over_lex_blank_l1 n s0 j1 i0 (IntKind.wrap IntKind.i64 (j3 + 1))
        else some (j3, ())
      else none
    else none
  else some (j3, ()) := by kernel_rfl
theorem lex_over_lex_blank_e (n : Nat) (s0 : ByteArray) (j1 : Int) : lex_over_lex_blank_v n s0 j1 =
  lex_over_lex_blank_l1 n s0 j1 n j1 := by kernel_rfl
theorem lex_over_lex_blank_c (n : Nat) (s0 : ByteArray) (j1 : Int) (y : Int × Unit) (h : lex_over_lex_blank_v n s0 j1 = some y) : Contract Tryd.prog 92 [AV.dv (DV.val (Value.string s0)), AV.dv (DV.val (Value.int IntKind.i64 j1)), AV.fn 91 []] [] (OSh.enc (OSh.plain (.i IntKind.i64) []) y) :=
  auto_okM tm_std (with_ok mixed (by kernel_rfl) (lex_over_lex_blank_σok n) n 0 [1000042, 1000043, 1000044, 1000045, 1000046, 1000059, 1000067]) (with_pick mixed (by kernel_rfl) (lex_over_lex_blank_σok n) n 0 [1000042, 1000043, 1000044, 1000045, 1000046, 1000059, 1000067]) mixed Tryd.func92 (by decide) (o := (OSh.plain (.i IntKind.i64) [])) h
/-! lex_skip_1: function 93 -/
def lex_skip_1_lv : Live := []
noncomputable def lex_skip_1_σ (n : Nat) : Spec := Spec.none
theorem lex_skip_1_σok (n : Nat) : SpecOk Tryd.prog (lex_skip_1_σ n) := (SpecOk.none _)
noncomputable def lex_skip_1_Φ (n : Nat) : Orc := with_ Tryd.prog (lex_skip_1_σ n) [] n 0 [1000042, 1000043, 1000044, 1000045, 1000046, 1000059, 1000067]
noncomputable def lex_skip_1_v (n : Nat) (j0 : Int) : Option (Bool × Unit) :=
  DM.denFn tm (lex_skip_1_Φ n) lex_skip_1_lv n Tryd.f93 false [AV.dv (DV.val (Value.int IntKind.u8 j0))] [] (OSh.chk (OSh.plain (.b) []))
theorem lex_skip_1_e (n : Nat) (j0 : Int) : lex_skip_1_v n j0 =
  some (j0 != 10, ()) := by kernel_rfl
theorem lex_skip_1_c (n : Nat) (j0 : Int) (y : Bool × Unit) (h : lex_skip_1_v n j0 = some y) : Contract Tryd.prog 93 [AV.dv (DV.val (Value.int IntKind.u8 j0))] [] (OSh.enc (OSh.plain (.b) []) y) :=
  auto_okM tm_std (with_ok mixed (by kernel_rfl) (lex_skip_1_σok n) n 0 [1000042, 1000043, 1000044, 1000045, 1000046, 1000059, 1000067]) (with_pick mixed (by kernel_rfl) (lex_skip_1_σok n) n 0 [1000042, 1000043, 1000044, 1000045, 1000046, 1000059, 1000067]) mixed Tryd.func93 (by decide) (o := (OSh.plain (.b) [])) h
/-! lex_over: function 92 -/
def lex_over_lex_skip_1_lv : Live := [(1, [0, 1, 2], [1000, 1001, 1002, 1003])]
noncomputable def lex_over_lex_skip_1_σ (n : Nat) : Spec := (inst 93 [.i IntKind.u8] [] (OSh.plain (.b) []) (fun x e => lex_skip_1_v n x.1) Spec.none)
theorem lex_over_lex_skip_1_σok (n : Nat) : SpecOk Tryd.prog (lex_over_lex_skip_1_σ n) := (inst_ok (fun x e y h => lex_skip_1_c n x.1 y h) (SpecOk.none _))
noncomputable def lex_over_lex_skip_1_Φ (n : Nat) : Orc := with_ Tryd.prog (lex_over_lex_skip_1_σ n) [] n 0 [1000042, 1000043, 1000044, 1000045, 1000046, 1000059, 1000067]
noncomputable def lex_over_lex_skip_1_v (n : Nat) (s0 : ByteArray) (j1 : Int) : Option (Int × Unit) :=
  DM.denFn tm (lex_over_lex_skip_1_Φ n) lex_over_lex_skip_1_lv n Tryd.f92 false [AV.dv (DV.val (Value.string s0)), AV.dv (DV.val (Value.int IntKind.i64 j1)), AV.fn 93 []] [] (OSh.chk (OSh.plain (.i IntKind.i64) []))
noncomputable def lex_over_lex_skip_1_l1 (n : Nat) (s0 : ByteArray) (j1 : Int) (i0 : Nat) (j3 : Int) : Option (Int × Unit) :=
  DM.loopFn tm (lex_over_lex_skip_1_Φ n) lex_over_lex_skip_1_lv n Tryd.f92 false [] (OSh.chk (OSh.plain (.i IntKind.i64) [])) 1 [] i0 (St.mk [AV.dv (DV.val (Value.string s0)), AV.dv (DV.val (Value.int IntKind.i64 j3)), AV.fn 93 [], AV.junk, AV.junk, AV.junk, AV.junk, AV.junk, AV.junk, AV.junk, AV.junk, AV.junk, AV.junk, AV.junk, AV.junk, AV.junk, AV.junk, AV.junk, AV.junk, AV.junk, AV.junk] [])
theorem lex_over_lex_skip_1_s1 (n : Nat) (s0 : ByteArray) (j1 : Int) (i0 : Nat) (j3 : Int) : lex_over_lex_skip_1_l1 n s0 j1 (i0 + 1) j3 =
  bif decide (j3 < (↑(ByteArray.size s0) : Int)) then
    if 0 ≤ j3 then
      if j3 < (↑(ByteArray.size s0) : Int) then
        obind (lex_skip_1_v n (bt s0 j3)) fun y4 =>
        bif y4.fst then
          lex_over_lex_skip_1_l1 n s0 j1 i0 (IntKind.wrap IntKind.i64 (j3 + 1))
        else some (j3, ())
      else none
    else none
  else some (j3, ()) := by kernel_rfl
theorem lex_over_lex_skip_1_e (n : Nat) (s0 : ByteArray) (j1 : Int) : lex_over_lex_skip_1_v n s0 j1 =
  lex_over_lex_skip_1_l1 n s0 j1 n j1 := by kernel_rfl
theorem lex_over_lex_skip_1_c (n : Nat) (s0 : ByteArray) (j1 : Int) (y : Int × Unit) (h : lex_over_lex_skip_1_v n s0 j1 = some y) : Contract Tryd.prog 92 [AV.dv (DV.val (Value.string s0)), AV.dv (DV.val (Value.int IntKind.i64 j1)), AV.fn 93 []] [] (OSh.enc (OSh.plain (.i IntKind.i64) []) y) :=
  auto_okM tm_std (with_ok mixed (by kernel_rfl) (lex_over_lex_skip_1_σok n) n 0 [1000042, 1000043, 1000044, 1000045, 1000046, 1000059, 1000067]) (with_pick mixed (by kernel_rfl) (lex_over_lex_skip_1_σok n) n 0 [1000042, 1000043, 1000044, 1000045, 1000046, 1000059, 1000067]) mixed Tryd.func92 (by decide) (o := (OSh.plain (.i IntKind.i64) [])) h
/-! lex_skip: function 69 -/
def lex_skip_lv : Live := [(1, [0, 1], [1000, 1001, 1002, 1003])]
noncomputable def lex_skip_σ (n : Nat) : Spec := (inst 91 [.i IntKind.u8] [] (OSh.plain (.b) []) (fun x e => lex_blank_v n x.1) (inst 92 [.s, .i IntKind.i64, .fn 91 []] [] (OSh.plain (.i IntKind.i64) []) (fun x e => lex_over_lex_blank_v n x.1 x.2.1) (inst 92 [.s, .i IntKind.i64, .fn 93 []] [] (OSh.plain (.i IntKind.i64) []) (fun x e => lex_over_lex_skip_1_v n x.1 x.2.1) Spec.none)))
theorem lex_skip_σok (n : Nat) : SpecOk Tryd.prog (lex_skip_σ n) := (inst_ok (fun x e y h => lex_blank_c n x.1 y h) (inst_ok (fun x e y h => lex_over_lex_blank_c n x.1 x.2.1 y h) (inst_ok (fun x e y h => lex_over_lex_skip_1_c n x.1 x.2.1 y h) (SpecOk.none _))))
noncomputable def lex_skip_Φ (n : Nat) : Orc := with_ Tryd.prog (lex_skip_σ n) [] n 0 [1000042, 1000043, 1000044, 1000045, 1000046, 1000059, 1000067]
noncomputable def lex_skip_v (n : Nat) (s0 : ByteArray) (j1 : Int) : Option (Int × Unit) :=
  DM.denFn tm (lex_skip_Φ n) lex_skip_lv n Tryd.f69 false [AV.dv (DV.val (Value.string s0)), AV.dv (DV.val (Value.int IntKind.i64 j1))] [] (OSh.chk (OSh.plain (.i IntKind.i64) []))
noncomputable def lex_skip_l1 (n : Nat) (s0 : ByteArray) (j1 : Int) (i0 : Nat) (j5 : Int) : Option (Int × Unit) :=
  DM.loopFn tm (lex_skip_Φ n) lex_skip_lv n Tryd.f69 false [] (OSh.chk (OSh.plain (.i IntKind.i64) [])) 1 [] i0 (St.mk [AV.dv (DV.val (Value.string s0)), AV.dv (DV.val (Value.int IntKind.i64 j5)), AV.junk, AV.junk, AV.junk, AV.junk, AV.junk, AV.junk, AV.junk, AV.junk, AV.junk, AV.junk, AV.junk, AV.junk, AV.junk, AV.junk, AV.junk, AV.junk, AV.junk, AV.junk, AV.junk, AV.junk, AV.junk, AV.junk, AV.junk, AV.junk] [])
theorem lex_skip_s1 (n : Nat) (s0 : ByteArray) (j1 : Int) (i0 : Nat) (j5 : Int) : lex_skip_l1 n s0 j1 (i0 + 1) j5 =
  bif decide (j5 < (↑(ByteArray.size s0) : Int)) then
    if 0 ≤ j5 then
      if j5 < (↑(ByteArray.size s0) : Int) then
        obind (lex_blank_v n (bt s0 j5)) fun y6 =>
        bif y6.fst then
          obind (lex_over_lex_blank_v n s0 j5) fun y7 =>
          lex_skip_l1 n s0 j1 i0 y7.fst
        else if 0 ≤ j5 then
          if j5 < (↑(ByteArray.size s0) : Int) then
            bif bt s0 j5 == 37 then
              obind (lex_over_lex_skip_1_v n s0 j5) fun y8 =>
              lex_skip_l1 n s0 j1 i0 y8.fst
            else some (j5, ())
          else none
        else none
      else none
    else none
  else some (j5, ()) := by kernel_rfl
theorem lex_skip_e (n : Nat) (s0 : ByteArray) (j1 : Int) : lex_skip_v n s0 j1 =
  lex_skip_l1 n s0 j1 n j1 := by kernel_rfl
theorem lex_skip_c (n : Nat) (s0 : ByteArray) (j1 : Int) (y : Int × Unit) (h : lex_skip_v n s0 j1 = some y) : Contract Tryd.prog 69 [AV.dv (DV.val (Value.string s0)), AV.dv (DV.val (Value.int IntKind.i64 j1))] [] (OSh.enc (OSh.plain (.i IntKind.i64) []) y) :=
  auto_okM tm_std (with_ok mixed (by kernel_rfl) (lex_skip_σok n) n 0 [1000042, 1000043, 1000044, 1000045, 1000046, 1000059, 1000067]) (with_pick mixed (by kernel_rfl) (lex_skip_σok n) n 0 [1000042, 1000043, 1000044, 1000045, 1000046, 1000059, 1000067]) mixed Tryd.func69 (by decide) (o := (OSh.plain (.i IntKind.i64) [])) h
/-! lex_small: function 95 -/
def lex_small_lv : Live := []
noncomputable def lex_small_σ (n : Nat) : Spec := Spec.none
theorem lex_small_σok (n : Nat) : SpecOk Tryd.prog (lex_small_σ n) := (SpecOk.none _)
noncomputable def lex_small_Φ (n : Nat) : Orc := with_ Tryd.prog (lex_small_σ n) [] n 0 [1000042, 1000043, 1000044, 1000045, 1000046, 1000059, 1000067]
noncomputable def lex_small_v (n : Nat) (j0 : Int) : Option (Bool × Unit) :=
  DM.denFn tm (lex_small_Φ n) lex_small_lv n Tryd.f95 false [AV.dv (DV.val (Value.int IntKind.u8 j0))] [] (OSh.chk (OSh.plain (.b) []))
theorem lex_small_e (n : Nat) (j0 : Int) : lex_small_v n j0 =
  bif decide (j0 ≥ 97) then
    some (decide (j0 ≤ 122), ())
  else some (false, ()) := by kernel_rfl
theorem lex_small_c (n : Nat) (j0 : Int) (y : Bool × Unit) (h : lex_small_v n j0 = some y) : Contract Tryd.prog 95 [AV.dv (DV.val (Value.int IntKind.u8 j0))] [] (OSh.enc (OSh.plain (.b) []) y) :=
  auto_okM tm_std (with_ok mixed (by kernel_rfl) (lex_small_σok n) n 0 [1000042, 1000043, 1000044, 1000045, 1000046, 1000059, 1000067]) (with_pick mixed (by kernel_rfl) (lex_small_σok n) n 0 [1000042, 1000043, 1000044, 1000045, 1000046, 1000059, 1000067]) mixed Tryd.func95 (by decide) (o := (OSh.plain (.b) [])) h
/-! lex_great: function 96 -/
def lex_great_lv : Live := []
noncomputable def lex_great_σ (n : Nat) : Spec := Spec.none
theorem lex_great_σok (n : Nat) : SpecOk Tryd.prog (lex_great_σ n) := (SpecOk.none _)
noncomputable def lex_great_Φ (n : Nat) : Orc := with_ Tryd.prog (lex_great_σ n) [] n 0 [1000042, 1000043, 1000044, 1000045, 1000046, 1000059, 1000067]
noncomputable def lex_great_v (n : Nat) (j0 : Int) : Option (Bool × Unit) :=
  DM.denFn tm (lex_great_Φ n) lex_great_lv n Tryd.f96 false [AV.dv (DV.val (Value.int IntKind.u8 j0))] [] (OSh.chk (OSh.plain (.b) []))
theorem lex_great_e (n : Nat) (j0 : Int) : lex_great_v n j0 =
  bif decide (j0 ≥ 65) then
    some (decide (j0 ≤ 90), ())
  else some (false, ()) := by kernel_rfl
theorem lex_great_c (n : Nat) (j0 : Int) (y : Bool × Unit) (h : lex_great_v n j0 = some y) : Contract Tryd.prog 96 [AV.dv (DV.val (Value.int IntKind.u8 j0))] [] (OSh.enc (OSh.plain (.b) []) y) :=
  auto_okM tm_std (with_ok mixed (by kernel_rfl) (lex_great_σok n) n 0 [1000042, 1000043, 1000044, 1000045, 1000046, 1000059, 1000067]) (with_pick mixed (by kernel_rfl) (lex_great_σok n) n 0 [1000042, 1000043, 1000044, 1000045, 1000046, 1000059, 1000067]) mixed Tryd.func96 (by decide) (o := (OSh.plain (.b) [])) h
/-! lex_digit: function 97 -/
def lex_digit_lv : Live := []
noncomputable def lex_digit_σ (n : Nat) : Spec := Spec.none
theorem lex_digit_σok (n : Nat) : SpecOk Tryd.prog (lex_digit_σ n) := (SpecOk.none _)
noncomputable def lex_digit_Φ (n : Nat) : Orc := with_ Tryd.prog (lex_digit_σ n) [] n 0 [1000042, 1000043, 1000044, 1000045, 1000046, 1000059, 1000067]
noncomputable def lex_digit_v (n : Nat) (j0 : Int) : Option (Bool × Unit) :=
  DM.denFn tm (lex_digit_Φ n) lex_digit_lv n Tryd.f97 false [AV.dv (DV.val (Value.int IntKind.u8 j0))] [] (OSh.chk (OSh.plain (.b) []))
theorem lex_digit_e (n : Nat) (j0 : Int) : lex_digit_v n j0 =
  bif decide (j0 ≥ 48) then
    some (decide (j0 ≤ 57), ())
  else some (false, ()) := by kernel_rfl
theorem lex_digit_c (n : Nat) (j0 : Int) (y : Bool × Unit) (h : lex_digit_v n j0 = some y) : Contract Tryd.prog 97 [AV.dv (DV.val (Value.int IntKind.u8 j0))] [] (OSh.enc (OSh.plain (.b) []) y) :=
  auto_okM tm_std (with_ok mixed (by kernel_rfl) (lex_digit_σok n) n 0 [1000042, 1000043, 1000044, 1000045, 1000046, 1000059, 1000067]) (with_pick mixed (by kernel_rfl) (lex_digit_σok n) n 0 [1000042, 1000043, 1000044, 1000045, 1000046, 1000059, 1000067]) mixed Tryd.func97 (by decide) (o := (OSh.plain (.b) [])) h
/-! lex_one_1: function 94 -/
def lex_one_1_lv : Live := []
noncomputable def lex_one_1_σ (n : Nat) : Spec := (inst 95 [.i IntKind.u8] [] (OSh.plain (.b) []) (fun x e => lex_small_v n x.1) (inst 96 [.i IntKind.u8] [] (OSh.plain (.b) []) (fun x e => lex_great_v n x.1) (inst 97 [.i IntKind.u8] [] (OSh.plain (.b) []) (fun x e => lex_digit_v n x.1) Spec.none)))
theorem lex_one_1_σok (n : Nat) : SpecOk Tryd.prog (lex_one_1_σ n) := (inst_ok (fun x e y h => lex_small_c n x.1 y h) (inst_ok (fun x e y h => lex_great_c n x.1 y h) (inst_ok (fun x e y h => lex_digit_c n x.1 y h) (SpecOk.none _))))
noncomputable def lex_one_1_Φ (n : Nat) : Orc := with_ Tryd.prog (lex_one_1_σ n) [] n 0 [1000042, 1000043, 1000044, 1000045, 1000046, 1000059, 1000067]
noncomputable def lex_one_1_v (n : Nat) (j0 : Int) : Option (Bool × Unit) :=
  DM.denFn tm (lex_one_1_Φ n) lex_one_1_lv n Tryd.f94 false [AV.dv (DV.val (Value.int IntKind.u8 j0))] [] (OSh.chk (OSh.plain (.b) []))
theorem lex_one_1_e (n : Nat) (j0 : Int) : lex_one_1_v n j0 =
  obind (lex_small_v n j0) fun y1 =>
  bif y1.fst then
    some (true, ())
  else obind (lex_great_v n j0) fun y2 =>
  bif y2.fst then
    some (true, ())
  else obind (lex_digit_v n j0) fun y3 =>
  bif y3.fst then
    some (true, ())
  else some (j0 == 95, ()) := by kernel_rfl
theorem lex_one_1_c (n : Nat) (j0 : Int) (y : Bool × Unit) (h : lex_one_1_v n j0 = some y) : Contract Tryd.prog 94 [AV.dv (DV.val (Value.int IntKind.u8 j0))] [] (OSh.enc (OSh.plain (.b) []) y) :=
  auto_okM tm_std (with_ok mixed (by kernel_rfl) (lex_one_1_σok n) n 0 [1000042, 1000043, 1000044, 1000045, 1000046, 1000059, 1000067]) (with_pick mixed (by kernel_rfl) (lex_one_1_σok n) n 0 [1000042, 1000043, 1000044, 1000045, 1000046, 1000059, 1000067]) mixed Tryd.func94 (by decide) (o := (OSh.plain (.b) [])) h
/-! lex_over: function 92 -/
def lex_over_lex_one_1_lv : Live := [(1, [0, 1, 2], [1000, 1001, 1002, 1003])]
noncomputable def lex_over_lex_one_1_σ (n : Nat) : Spec := (inst 94 [.i IntKind.u8] [] (OSh.plain (.b) []) (fun x e => lex_one_1_v n x.1) Spec.none)
theorem lex_over_lex_one_1_σok (n : Nat) : SpecOk Tryd.prog (lex_over_lex_one_1_σ n) := (inst_ok (fun x e y h => lex_one_1_c n x.1 y h) (SpecOk.none _))
noncomputable def lex_over_lex_one_1_Φ (n : Nat) : Orc := with_ Tryd.prog (lex_over_lex_one_1_σ n) [] n 0 [1000042, 1000043, 1000044, 1000045, 1000046, 1000059, 1000067]
noncomputable def lex_over_lex_one_1_v (n : Nat) (s0 : ByteArray) (j1 : Int) : Option (Int × Unit) :=
  DM.denFn tm (lex_over_lex_one_1_Φ n) lex_over_lex_one_1_lv n Tryd.f92 false [AV.dv (DV.val (Value.string s0)), AV.dv (DV.val (Value.int IntKind.i64 j1)), AV.fn 94 []] [] (OSh.chk (OSh.plain (.i IntKind.i64) []))
noncomputable def lex_over_lex_one_1_l1 (n : Nat) (s0 : ByteArray) (j1 : Int) (i0 : Nat) (j3 : Int) : Option (Int × Unit) :=
  DM.loopFn tm (lex_over_lex_one_1_Φ n) lex_over_lex_one_1_lv n Tryd.f92 false [] (OSh.chk (OSh.plain (.i IntKind.i64) [])) 1 [] i0 (St.mk [AV.dv (DV.val (Value.string s0)), AV.dv (DV.val (Value.int IntKind.i64 j3)), AV.fn 94 [], AV.junk, AV.junk, AV.junk, AV.junk, AV.junk, AV.junk, AV.junk, AV.junk, AV.junk, AV.junk, AV.junk, AV.junk, AV.junk, AV.junk, AV.junk, AV.junk, AV.junk, AV.junk] [])
theorem lex_over_lex_one_1_s1 (n : Nat) (s0 : ByteArray) (j1 : Int) (i0 : Nat) (j3 : Int) : lex_over_lex_one_1_l1 n s0 j1 (i0 + 1) j3 =
  bif decide (j3 < (↑(ByteArray.size s0) : Int)) then
    if 0 ≤ j3 then
      if j3 < (↑(ByteArray.size s0) : Int) then
        obind (lex_one_1_v n (bt s0 j3)) fun y4 =>
        bif y4.fst then
          lex_over_lex_one_1_l1 n s0 j1 i0 (IntKind.wrap IntKind.i64 (j3 + 1))
        else some (j3, ())
      else none
    else none
  else some (j3, ()) := by kernel_rfl
theorem lex_over_lex_one_1_e (n : Nat) (s0 : ByteArray) (j1 : Int) : lex_over_lex_one_1_v n s0 j1 =
  lex_over_lex_one_1_l1 n s0 j1 n j1 := by kernel_rfl
theorem lex_over_lex_one_1_c (n : Nat) (s0 : ByteArray) (j1 : Int) (y : Int × Unit) (h : lex_over_lex_one_1_v n s0 j1 = some y) : Contract Tryd.prog 92 [AV.dv (DV.val (Value.string s0)), AV.dv (DV.val (Value.int IntKind.i64 j1)), AV.fn 94 []] [] (OSh.enc (OSh.plain (.i IntKind.i64) []) y) :=
  auto_okM tm_std (with_ok mixed (by kernel_rfl) (lex_over_lex_one_1_σok n) n 0 [1000042, 1000043, 1000044, 1000045, 1000046, 1000059, 1000067]) (with_pick mixed (by kernel_rfl) (lex_over_lex_one_1_σok n) n 0 [1000042, 1000043, 1000044, 1000045, 1000046, 1000059, 1000067]) mixed Tryd.func92 (by decide) (o := (OSh.plain (.i IntKind.i64) [])) h
/-! lex_over: function 92 -/
def lex_over_lex_digit_lv : Live := [(1, [0, 1, 2], [1000, 1001, 1002, 1003])]
noncomputable def lex_over_lex_digit_σ (n : Nat) : Spec := (inst 97 [.i IntKind.u8] [] (OSh.plain (.b) []) (fun x e => lex_digit_v n x.1) Spec.none)
theorem lex_over_lex_digit_σok (n : Nat) : SpecOk Tryd.prog (lex_over_lex_digit_σ n) := (inst_ok (fun x e y h => lex_digit_c n x.1 y h) (SpecOk.none _))
noncomputable def lex_over_lex_digit_Φ (n : Nat) : Orc := with_ Tryd.prog (lex_over_lex_digit_σ n) [] n 0 [1000042, 1000043, 1000044, 1000045, 1000046, 1000059, 1000067]
noncomputable def lex_over_lex_digit_v (n : Nat) (s0 : ByteArray) (j1 : Int) : Option (Int × Unit) :=
  DM.denFn tm (lex_over_lex_digit_Φ n) lex_over_lex_digit_lv n Tryd.f92 false [AV.dv (DV.val (Value.string s0)), AV.dv (DV.val (Value.int IntKind.i64 j1)), AV.fn 97 []] [] (OSh.chk (OSh.plain (.i IntKind.i64) []))
noncomputable def lex_over_lex_digit_l1 (n : Nat) (s0 : ByteArray) (j1 : Int) (i0 : Nat) (j3 : Int) : Option (Int × Unit) :=
  DM.loopFn tm (lex_over_lex_digit_Φ n) lex_over_lex_digit_lv n Tryd.f92 false [] (OSh.chk (OSh.plain (.i IntKind.i64) [])) 1 [] i0 (St.mk [AV.dv (DV.val (Value.string s0)), AV.dv (DV.val (Value.int IntKind.i64 j3)), AV.fn 97 [], AV.junk, AV.junk, AV.junk, AV.junk, AV.junk, AV.junk, AV.junk, AV.junk, AV.junk, AV.junk, AV.junk, AV.junk, AV.junk, AV.junk, AV.junk, AV.junk, AV.junk, AV.junk] [])
theorem lex_over_lex_digit_s1 (n : Nat) (s0 : ByteArray) (j1 : Int) (i0 : Nat) (j3 : Int) : lex_over_lex_digit_l1 n s0 j1 (i0 + 1) j3 =
  bif decide (j3 < (↑(ByteArray.size s0) : Int)) then
    if 0 ≤ j3 then
      if j3 < (↑(ByteArray.size s0) : Int) then
        obind (lex_digit_v n (bt s0 j3)) fun y4 =>
        bif y4.fst then
          lex_over_lex_digit_l1 n s0 j1 i0 (IntKind.wrap IntKind.i64 (j3 + 1))
        else some (j3, ())
      else none
    else none
  else some (j3, ()) := by kernel_rfl
theorem lex_over_lex_digit_e (n : Nat) (s0 : ByteArray) (j1 : Int) : lex_over_lex_digit_v n s0 j1 =
  lex_over_lex_digit_l1 n s0 j1 n j1 := by kernel_rfl
theorem lex_over_lex_digit_c (n : Nat) (s0 : ByteArray) (j1 : Int) (y : Int × Unit) (h : lex_over_lex_digit_v n s0 j1 = some y) : Contract Tryd.prog 92 [AV.dv (DV.val (Value.string s0)), AV.dv (DV.val (Value.int IntKind.i64 j1)), AV.fn 97 []] [] (OSh.enc (OSh.plain (.i IntKind.i64) []) y) :=
  auto_okM tm_std (with_ok mixed (by kernel_rfl) (lex_over_lex_digit_σok n) n 0 [1000042, 1000043, 1000044, 1000045, 1000046, 1000059, 1000067]) (with_pick mixed (by kernel_rfl) (lex_over_lex_digit_σok n) n 0 [1000042, 1000043, 1000044, 1000045, 1000046, 1000059, 1000067]) mixed Tryd.func92 (by decide) (o := (OSh.plain (.i IntKind.i64) [])) h
/-! lex_number: function 98 -/
def lex_number_lv : Live := [(8, [0, 4, 5, 30, 31], [1000, 1001, 1002, 1003])]
noncomputable def lex_number_σ (n : Nat) : Spec := Spec.none
theorem lex_number_σok (n : Nat) : SpecOk Tryd.prog (lex_number_σ n) := (SpecOk.none _)
noncomputable def lex_number_Φ (n : Nat) : Orc := with_ Tryd.prog (lex_number_σ n) [] n 0 [1000042, 1000043, 1000044, 1000045, 1000046, 1000059, 1000067]
noncomputable def lex_number_v (n : Nat) (s0 : ByteArray) : Option ((Int × Bool × Unit) × Unit) :=
  DM.denFn tm (lex_number_Φ n) lex_number_lv n Tryd.f98 false [AV.dv (DV.val (Value.string s0))] [] (OSh.chk (OSh.plain (.tup [.i IntKind.i64, .b]) []))
noncomputable def lex_number_l8 (n : Nat) (s0 : ByteArray) (i0 : Nat) (s1 : ByteArray) (j2 : Int) (j3 : Int) (j4 : Int) : Option ((Int × Bool × Unit) × Unit) :=
  DM.loopFn tm (lex_number_Φ n) lex_number_lv n Tryd.f98 false [] (OSh.chk (OSh.plain (.tup [.i IntKind.i64, .b]) [])) 8 [] i0 (St.mk [AV.dv (DV.val (Value.string s1)), AV.junk, AV.junk, AV.junk, AV.dv (DV.val (Value.bool (bt s0 0 == 45))), AV.dv (DV.val (Value.int IntKind.i64 j3)), AV.junk, AV.junk, AV.junk, AV.junk, AV.junk, AV.junk, AV.junk, AV.junk, AV.junk, AV.junk, AV.junk, AV.junk, AV.junk, AV.junk, AV.junk, AV.junk, AV.junk, AV.junk, AV.junk, AV.junk, AV.junk, AV.junk, AV.junk, AV.junk, AV.dv (DV.val (Value.int IntKind.i64 j2)), AV.dv (DV.val (Value.int IntKind.i64 j4)), AV.junk, AV.junk, AV.junk, AV.junk, AV.junk, AV.junk, AV.junk, AV.junk, AV.junk, AV.junk, AV.junk, AV.junk, AV.junk, AV.junk, AV.junk, AV.junk, AV.junk, AV.junk, AV.junk, AV.junk, AV.junk, AV.junk, AV.junk] [])
theorem lex_number_s8 (n : Nat) (s0 : ByteArray) (i0 : Nat) (s1 : ByteArray) (j2 : Int) (j3 : Int) (j4 : Int) : lex_number_l8 n s0 (i0 + 1) s1 j2 j3 j4 =
  bif decide (j4 < j2) then
    if 0 ≤ j4 then
      if j4 < (↑(ByteArray.size s1) : Int) then
        bif decide (j3 < IntKind.wrap IntKind.i64 (Int.tdiv (IntKind.wrap IntKind.i64 (-9223372036854775808 + IntKind.wrap IntKind.i64 (IntKind.wrap IntKind.u8 (bt s1 j4 - 48)))) 10)) then
          some ((0, (false, ())), ())
        else lex_number_l8 n s0 i0 s1 j2 (IntKind.wrap IntKind.i64 (IntKind.wrap IntKind.i64 (10 * j3) - IntKind.wrap IntKind.i64 (IntKind.wrap IntKind.u8 (bt s1 j4 - 48)))) (IntKind.wrap IntKind.i64 (j4 + 1))
      else none
    else none
  else bif bt s0 0 == 45 then
    some ((j3, (true, ())), ())
  else some ((IntKind.wrap IntKind.i64 (0 - j3), (j3 != -9223372036854775808, ())), ()) := by kernel_rfl
theorem lex_number_e (n : Nat) (s0 : ByteArray) : lex_number_v n s0 =
  if 0 < (↑(ByteArray.size s0) : Int) then
    bif bt s0 0 == 45 then
      if 1 ≤ (↑(ByteArray.size s0) : Int) then
        if (↑(ByteArray.size s0) : Int) ≤ (↑(ByteArray.size s0) : Int) then
          bif ByteArray.extract s0 1 (Int.toNat (↑(ByteArray.size s0) : Int)) == ByteArray.mk #[] then
            some ((0, (false, ())), ())
          else if 0 < (↑(ByteArray.size (ByteArray.extract s0 1 (Int.toNat (↑(ByteArray.size s0) : Int)))) : Int) then
            bif bt (ByteArray.extract s0 1 (Int.toNat (↑(ByteArray.size s0) : Int))) 0 == 48 then
              bif bt s0 0 == 45 then
                some ((0, (false, ())), ())
              else bif decide ((↑(ByteArray.size (ByteArray.extract s0 1 (Int.toNat (↑(ByteArray.size s0) : Int)))) : Int) > 1) then
                some ((0, (false, ())), ())
              else lex_number_l8 n s0 n (ByteArray.extract s0 1 (Int.toNat (↑(ByteArray.size s0) : Int))) ((↑(ByteArray.size (ByteArray.extract s0 1 (Int.toNat (↑(ByteArray.size s0) : Int)))) : Int)) 0 0
            else lex_number_l8 n s0 n (ByteArray.extract s0 1 (Int.toNat (↑(ByteArray.size s0) : Int))) ((↑(ByteArray.size (ByteArray.extract s0 1 (Int.toNat (↑(ByteArray.size s0) : Int)))) : Int)) 0 0
          else none
        else none
      else none
    else bif s0 == ByteArray.mk #[] then
      some ((0, (false, ())), ())
    else if 0 < (↑(ByteArray.size s0) : Int) then
      bif bt s0 0 == 48 then
        bif bt s0 0 == 45 then
          some ((0, (false, ())), ())
        else bif decide ((↑(ByteArray.size s0) : Int) > 1) then
          some ((0, (false, ())), ())
        else lex_number_l8 n s0 n s0 ((↑(ByteArray.size s0) : Int)) 0 0
      else lex_number_l8 n s0 n s0 ((↑(ByteArray.size s0) : Int)) 0 0
    else none
  else none := by kernel_rfl
theorem lex_number_c (n : Nat) (s0 : ByteArray) (y : (Int × Bool × Unit) × Unit) (h : lex_number_v n s0 = some y) : Contract Tryd.prog 98 [AV.dv (DV.val (Value.string s0))] [] (OSh.enc (OSh.plain (.tup [.i IntKind.i64, .b]) []) y) :=
  auto_okM tm_std (with_ok mixed (by kernel_rfl) (lex_number_σok n) n 0 [1000042, 1000043, 1000044, 1000045, 1000046, 1000059, 1000067]) (with_pick mixed (by kernel_rfl) (lex_number_σok n) n 0 [1000042, 1000043, 1000044, 1000045, 1000046, 1000059, 1000067]) mixed Tryd.func98 (by decide) (o := (OSh.plain (.tup [.i IntKind.i64, .b]) [])) h
/-! lex_quoted_1: function 106 -/
def lex_quoted_1_lv : Live := []
noncomputable def lex_quoted_1_σ (n : Nat) : Spec := Spec.none
theorem lex_quoted_1_σok (n : Nat) : SpecOk Tryd.prog (lex_quoted_1_σ n) := (SpecOk.none _)
noncomputable def lex_quoted_1_Φ (n : Nat) : Orc := with_ Tryd.prog (lex_quoted_1_σ n) [] n 0 [1000042, 1000043, 1000044, 1000045, 1000046, 1000059, 1000067]
noncomputable def lex_quoted_1_v (n : Nat) (j0 : Int) : Option (Bool × Unit) :=
  DM.denFn tm (lex_quoted_1_Φ n) lex_quoted_1_lv n Tryd.f106 false [AV.dv (DV.val (Value.int IntKind.u8 j0))] [] (OSh.chk (OSh.plain (.b) []))
theorem lex_quoted_1_e (n : Nat) (j0 : Int) : lex_quoted_1_v n j0 =
  bif decide (j0 ≥ 32) then
    bif decide (j0 ≤ 126) then
      bif j0 != 34 then
        some (j0 != 92, ())
      else some (false, ())
    else some (false, ())
  else some (false, ()) := by kernel_rfl
theorem lex_quoted_1_c (n : Nat) (j0 : Int) (y : Bool × Unit) (h : lex_quoted_1_v n j0 = some y) : Contract Tryd.prog 106 [AV.dv (DV.val (Value.int IntKind.u8 j0))] [] (OSh.enc (OSh.plain (.b) []) y) :=
  auto_okM tm_std (with_ok mixed (by kernel_rfl) (lex_quoted_1_σok n) n 0 [1000042, 1000043, 1000044, 1000045, 1000046, 1000059, 1000067]) (with_pick mixed (by kernel_rfl) (lex_quoted_1_σok n) n 0 [1000042, 1000043, 1000044, 1000045, 1000046, 1000059, 1000067]) mixed Tryd.func106 (by decide) (o := (OSh.plain (.b) [])) h
/-! lex_over: function 92 -/
def lex_over_lex_quoted_1_lv : Live := [(1, [0, 1, 2], [1000, 1001, 1002, 1003])]
noncomputable def lex_over_lex_quoted_1_σ (n : Nat) : Spec := (inst 106 [.i IntKind.u8] [] (OSh.plain (.b) []) (fun x e => lex_quoted_1_v n x.1) Spec.none)
theorem lex_over_lex_quoted_1_σok (n : Nat) : SpecOk Tryd.prog (lex_over_lex_quoted_1_σ n) := (inst_ok (fun x e y h => lex_quoted_1_c n x.1 y h) (SpecOk.none _))
noncomputable def lex_over_lex_quoted_1_Φ (n : Nat) : Orc := with_ Tryd.prog (lex_over_lex_quoted_1_σ n) [] n 0 [1000042, 1000043, 1000044, 1000045, 1000046, 1000059, 1000067]
noncomputable def lex_over_lex_quoted_1_v (n : Nat) (s0 : ByteArray) (j1 : Int) : Option (Int × Unit) :=
  DM.denFn tm (lex_over_lex_quoted_1_Φ n) lex_over_lex_quoted_1_lv n Tryd.f92 false [AV.dv (DV.val (Value.string s0)), AV.dv (DV.val (Value.int IntKind.i64 j1)), AV.fn 106 []] [] (OSh.chk (OSh.plain (.i IntKind.i64) []))
noncomputable def lex_over_lex_quoted_1_l1 (n : Nat) (s0 : ByteArray) (j1 : Int) (i0 : Nat) (j3 : Int) : Option (Int × Unit) :=
  DM.loopFn tm (lex_over_lex_quoted_1_Φ n) lex_over_lex_quoted_1_lv n Tryd.f92 false [] (OSh.chk (OSh.plain (.i IntKind.i64) [])) 1 [] i0 (St.mk [AV.dv (DV.val (Value.string s0)), AV.dv (DV.val (Value.int IntKind.i64 j3)), AV.fn 106 [], AV.junk, AV.junk, AV.junk, AV.junk, AV.junk, AV.junk, AV.junk, AV.junk, AV.junk, AV.junk, AV.junk, AV.junk, AV.junk, AV.junk, AV.junk, AV.junk, AV.junk, AV.junk] [])
theorem lex_over_lex_quoted_1_s1 (n : Nat) (s0 : ByteArray) (j1 : Int) (i0 : Nat) (j3 : Int) : lex_over_lex_quoted_1_l1 n s0 j1 (i0 + 1) j3 =
  bif decide (j3 < (↑(ByteArray.size s0) : Int)) then
    if 0 ≤ j3 then
      if j3 < (↑(ByteArray.size s0) : Int) then
        obind (lex_quoted_1_v n (bt s0 j3)) fun y4 =>
        bif y4.fst then
          lex_over_lex_quoted_1_l1 n s0 j1 i0 (IntKind.wrap IntKind.i64 (j3 + 1))
        else some (j3, ())
      else none
    else none
  else some (j3, ()) := by kernel_rfl
theorem lex_over_lex_quoted_1_e (n : Nat) (s0 : ByteArray) (j1 : Int) : lex_over_lex_quoted_1_v n s0 j1 =
  lex_over_lex_quoted_1_l1 n s0 j1 n j1 := by kernel_rfl
theorem lex_over_lex_quoted_1_c (n : Nat) (s0 : ByteArray) (j1 : Int) (y : Int × Unit) (h : lex_over_lex_quoted_1_v n s0 j1 = some y) : Contract Tryd.prog 92 [AV.dv (DV.val (Value.string s0)), AV.dv (DV.val (Value.int IntKind.i64 j1)), AV.fn 106 []] [] (OSh.enc (OSh.plain (.i IntKind.i64) []) y) :=
  auto_okM tm_std (with_ok mixed (by kernel_rfl) (lex_over_lex_quoted_1_σok n) n 0 [1000042, 1000043, 1000044, 1000045, 1000046, 1000059, 1000067]) (with_pick mixed (by kernel_rfl) (lex_over_lex_quoted_1_σok n) n 0 [1000042, 1000043, 1000044, 1000045, 1000046, 1000059, 1000067]) mixed Tryd.func92 (by decide) (o := (OSh.plain (.i IntKind.i64) [])) h
/-! lex_quoted: function 99 -/
def lex_quoted_lv : Live := []
noncomputable def lex_quoted_σ (n : Nat) : Spec := (inst 92 [.s, .i IntKind.i64, .fn 106 []] [] (OSh.plain (.i IntKind.i64) []) (fun x e => lex_over_lex_quoted_1_v n x.1 x.2.1) Spec.none)
theorem lex_quoted_σok (n : Nat) : SpecOk Tryd.prog (lex_quoted_σ n) := (inst_ok (fun x e y h => lex_over_lex_quoted_1_c n x.1 x.2.1 y h) (SpecOk.none _))
noncomputable def lex_quoted_Φ (n : Nat) : Orc := with_ Tryd.prog (lex_quoted_σ n) [] n 0 [1000042, 1000043, 1000044, 1000045, 1000046, 1000059, 1000067]
noncomputable def lex_quoted_v (n : Nat) (s0 : ByteArray) (j1 : Int) : Option ((ByteArray × Int × Bool × Unit) × Unit) :=
  DM.denFn tm (lex_quoted_Φ n) lex_quoted_lv n Tryd.f99 false [AV.dv (DV.val (Value.string s0)), AV.dv (DV.val (Value.int IntKind.i64 j1))] [] (OSh.chk (OSh.plain (.tup [.s, .i IntKind.i64, .b]) []))
theorem lex_quoted_e (n : Nat) (s0 : ByteArray) (j1 : Int) : lex_quoted_v n s0 j1 =
  obind (lex_over_lex_quoted_1_v n s0 (IntKind.wrap IntKind.i64 (j1 + 1))) fun y2 =>
  bif decide (y2.fst ≥ (↑(ByteArray.size s0) : Int)) then
    some ((ByteArray.mk #[], (0, (false, ()))), ())
  else if 0 ≤ y2.fst then
    if y2.fst < (↑(ByteArray.size s0) : Int) then
      bif bt s0 y2.fst != 34 then
        some ((ByteArray.mk #[], (0, (false, ()))), ())
      else if 0 ≤ IntKind.wrap IntKind.i64 (j1 + 1) then
        if IntKind.wrap IntKind.i64 (j1 + 1) ≤ y2.fst then
          if y2.fst ≤ (↑(ByteArray.size s0) : Int) then
            some ((ByteArray.extract s0 (Int.toNat (IntKind.wrap IntKind.i64 (j1 + 1))) (Int.toNat y2.fst), (IntKind.wrap IntKind.i64 (y2.fst + 1), (true, ()))), ())
          else none
        else none
      else none
    else none
  else none := by kernel_rfl
theorem lex_quoted_c (n : Nat) (s0 : ByteArray) (j1 : Int) (y : (ByteArray × Int × Bool × Unit) × Unit) (h : lex_quoted_v n s0 j1 = some y) : Contract Tryd.prog 99 [AV.dv (DV.val (Value.string s0)), AV.dv (DV.val (Value.int IntKind.i64 j1))] [] (OSh.enc (OSh.plain (.tup [.s, .i IntKind.i64, .b]) []) y) :=
  auto_okM tm_std (with_ok mixed (by kernel_rfl) (lex_quoted_σok n) n 0 [1000042, 1000043, 1000044, 1000045, 1000046, 1000059, 1000067]) (with_pick mixed (by kernel_rfl) (lex_quoted_σok n) n 0 [1000042, 1000043, 1000044, 1000045, 1000046, 1000059, 1000067]) mixed Tryd.func99 (by decide) (o := (OSh.plain (.tup [.s, .i IntKind.i64, .b]) [])) h
/-! lex_one: function 70 -/
def lex_one_lv : Live := []
noncomputable def lex_one_σ (n : Nat) : Spec := (inst 95 [.i IntKind.u8] [] (OSh.plain (.b) []) (fun x e => lex_small_v n x.1) (inst 92 [.s, .i IntKind.i64, .fn 94 []] [] (OSh.plain (.i IntKind.i64) []) (fun x e => lex_over_lex_one_1_v n x.1 x.2.1) (inst 96 [.i IntKind.u8] [] (OSh.plain (.b) []) (fun x e => lex_great_v n x.1) (inst 97 [.i IntKind.u8] [] (OSh.plain (.b) []) (fun x e => lex_digit_v n x.1) (inst 92 [.s, .i IntKind.i64, .fn 97 []] [] (OSh.plain (.i IntKind.i64) []) (fun x e => lex_over_lex_digit_v n x.1 x.2.1) (inst 98 [.s] [] (OSh.plain (.tup [.i IntKind.i64, .b]) []) (fun x e => lex_number_v n x.1) (inst 99 [.s, .i IntKind.i64] [] (OSh.plain (.tup [.s, .i IntKind.i64, .b]) []) (fun x e => lex_quoted_v n x.1 x.2.1) Spec.none)))))))
theorem lex_one_σok (n : Nat) : SpecOk Tryd.prog (lex_one_σ n) := (inst_ok (fun x e y h => lex_small_c n x.1 y h) (inst_ok (fun x e y h => lex_over_lex_one_1_c n x.1 x.2.1 y h) (inst_ok (fun x e y h => lex_great_c n x.1 y h) (inst_ok (fun x e y h => lex_digit_c n x.1 y h) (inst_ok (fun x e y h => lex_over_lex_digit_c n x.1 x.2.1 y h) (inst_ok (fun x e y h => lex_number_c n x.1 y h) (inst_ok (fun x e y h => lex_quoted_c n x.1 x.2.1 y h) (SpecOk.none _))))))))
noncomputable def lex_one_Φ (n : Nat) : Orc := with_ Tryd.prog (lex_one_σ n) [] n 0 [1000042, 1000043, 1000044, 1000045, 1000046, 1000059, 1000067]
noncomputable def lex_one_v (n : Nat) (s0 : ByteArray) (j1 : Int) : Option (((Int × ByteArray × Int × Int × Unit) × Int × Int × Unit) × Unit) :=
  DM.denFn tm (lex_one_Φ n) lex_one_lv n Tryd.f70 false [AV.dv (DV.val (Value.string s0)), AV.dv (DV.val (Value.int IntKind.i64 j1))] [] (OSh.chk (OSh.plain (.tup [.agg [.i IntKind.i64, .s, .i IntKind.i64, .i IntKind.i64], .i IntKind.i64, .i IntKind.i64]) []))
theorem lex_one_e (n : Nat) (s0 : ByteArray) (j1 : Int) : lex_one_v n s0 j1 =
  if 0 ≤ j1 then
    if j1 < (↑(ByteArray.size s0) : Int) then
      obind (lex_small_v n (bt s0 j1)) fun y2 =>
      bif y2.fst then
        obind (lex_over_lex_one_1_v n s0 j1) fun y3 =>
        if 0 ≤ j1 then
          if j1 ≤ y3.fst then
            if y3.fst ≤ (↑(ByteArray.size s0) : Int) then
              bif decide ((↑(ByteArray.size (ByteArray.extract s0 (Int.toNat j1) (Int.toNat y3.fst))) : Int) > 32) then
                some (((1, (ByteArray.extract s0 (Int.toNat j1) (Int.toNat y3.fst), (0, (j1, ())))), (0, (71, ()))), ())
              else some (((1, (ByteArray.extract s0 (Int.toNat j1) (Int.toNat y3.fst), (0, (j1, ())))), (y3.fst, (0, ()))), ())
            else none
          else none
        else none
      else obind (lex_great_v n (bt s0 j1)) fun y4 =>
      bif y4.fst then
        obind (lex_over_lex_one_1_v n s0 j1) fun y5 =>
        if 0 ≤ j1 then
          if j1 ≤ y5.fst then
            if y5.fst ≤ (↑(ByteArray.size s0) : Int) then
              bif decide ((↑(ByteArray.size (ByteArray.extract s0 (Int.toNat j1) (Int.toNat y5.fst))) : Int) > 32) then
                some (((2, (ByteArray.extract s0 (Int.toNat j1) (Int.toNat y5.fst), (0, (j1, ())))), (0, (71, ()))), ())
              else some (((2, (ByteArray.extract s0 (Int.toNat j1) (Int.toNat y5.fst), (0, (j1, ())))), (y5.fst, (0, ()))), ())
            else none
          else none
        else none
      else obind (lex_digit_v n (bt s0 j1)) fun y6 =>
      bif y6.fst then
        obind (lex_over_lex_digit_v n s0 (IntKind.wrap IntKind.i64 (j1 + 1))) fun y7 =>
        if 0 ≤ j1 then
          if j1 ≤ y7.fst then
            if y7.fst ≤ (↑(ByteArray.size s0) : Int) then
              obind (lex_number_v n (ByteArray.extract s0 (Int.toNat j1) (Int.toNat y7.fst))) fun y8 =>
              bif !y8.fst.snd.fst then
                some (((0, (ByteArray.mk #[], (0, (j1, ())))), (0, (70, ()))), ())
              else some (((3, (ByteArray.mk #[], (y8.fst.fst, (j1, ())))), (y7.fst, (0, ()))), ())
            else none
          else none
        else none
      else bif bt s0 j1 == 45 then
        obind (lex_over_lex_digit_v n s0 (IntKind.wrap IntKind.i64 (j1 + 1))) fun y9 =>
        if 0 ≤ j1 then
          if j1 ≤ y9.fst then
            if y9.fst ≤ (↑(ByteArray.size s0) : Int) then
              obind (lex_number_v n (ByteArray.extract s0 (Int.toNat j1) (Int.toNat y9.fst))) fun y10 =>
              bif !y10.fst.snd.fst then
                some (((0, (ByteArray.mk #[], (0, (j1, ())))), (0, (70, ()))), ())
              else some (((3, (ByteArray.mk #[], (y10.fst.fst, (j1, ())))), (y9.fst, (0, ()))), ())
            else none
          else none
        else none
      else bif bt s0 j1 == 34 then
        obind (lex_quoted_v n s0 j1) fun y11 =>
        bif !y11.fst.snd.snd.fst then
          some (((0, (ByteArray.mk #[], (0, (j1, ())))), (0, (70, ()))), ())
        else bif decide ((↑(ByteArray.size y11.fst.fst) : Int) > 32) then
          some (((4, (y11.fst.fst, (0, (j1, ())))), (0, (71, ()))), ())
        else some (((4, (y11.fst.fst, (0, (j1, ())))), (y11.fst.snd.fst, (0, ()))), ())
      else bif bt s0 j1 == 58 then
        bif decide (IntKind.wrap IntKind.i64 (j1 + 1) < (↑(ByteArray.size s0) : Int)) then
          if 0 ≤ IntKind.wrap IntKind.i64 (j1 + 1) then
            if IntKind.wrap IntKind.i64 (j1 + 1) < (↑(ByteArray.size s0) : Int) then
              bif bt s0 (IntKind.wrap IntKind.i64 (j1 + 1)) == 45 then
                if 0 ≤ j1 then
                  if j1 ≤ IntKind.wrap IntKind.i64 (IntKind.wrap IntKind.i64 (j1 + 1) + 1) then
                    if IntKind.wrap IntKind.i64 (IntKind.wrap IntKind.i64 (j1 + 1) + 1) ≤ (↑(ByteArray.size s0) : Int) then
                      bif decide ((↑(ByteArray.size (ByteArray.extract s0 (Int.toNat j1) (Int.toNat (IntKind.wrap IntKind.i64 (IntKind.wrap IntKind.i64 (j1 + 1) + 1))))) : Int) > 32) then
                        some (((5, (ByteArray.extract s0 (Int.toNat j1) (Int.toNat (IntKind.wrap IntKind.i64 (IntKind.wrap IntKind.i64 (j1 + 1) + 1))), (0, (j1, ())))), (0, (71, ()))), ())
                      else some (((5, (ByteArray.extract s0 (Int.toNat j1) (Int.toNat (IntKind.wrap IntKind.i64 (IntKind.wrap IntKind.i64 (j1 + 1) + 1))), (0, (j1, ())))), (IntKind.wrap IntKind.i64 (IntKind.wrap IntKind.i64 (j1 + 1) + 1), (0, ()))), ())
                    else none
                  else none
                else none
              else bif bt s0 j1 == 40 then
                if 0 ≤ j1 then
                  if j1 ≤ IntKind.wrap IntKind.i64 (j1 + 1) then
                    if IntKind.wrap IntKind.i64 (j1 + 1) ≤ (↑(ByteArray.size s0) : Int) then
                      bif decide ((↑(ByteArray.size (ByteArray.extract s0 (Int.toNat j1) (Int.toNat (IntKind.wrap IntKind.i64 (j1 + 1))))) : Int) > 32) then
                        some (((5, (ByteArray.extract s0 (Int.toNat j1) (Int.toNat (IntKind.wrap IntKind.i64 (j1 + 1))), (0, (j1, ())))), (0, (71, ()))), ())
                      else some (((5, (ByteArray.extract s0 (Int.toNat j1) (Int.toNat (IntKind.wrap IntKind.i64 (j1 + 1))), (0, (j1, ())))), (IntKind.wrap IntKind.i64 (j1 + 1), (0, ()))), ())
                    else none
                  else none
                else none
              else bif bt s0 j1 == 41 then
                if 0 ≤ j1 then
                  if j1 ≤ IntKind.wrap IntKind.i64 (j1 + 1) then
                    if IntKind.wrap IntKind.i64 (j1 + 1) ≤ (↑(ByteArray.size s0) : Int) then
                      bif decide ((↑(ByteArray.size (ByteArray.extract s0 (Int.toNat j1) (Int.toNat (IntKind.wrap IntKind.i64 (j1 + 1))))) : Int) > 32) then
                        some (((5, (ByteArray.extract s0 (Int.toNat j1) (Int.toNat (IntKind.wrap IntKind.i64 (j1 + 1))), (0, (j1, ())))), (0, (71, ()))), ())
                      else some (((5, (ByteArray.extract s0 (Int.toNat j1) (Int.toNat (IntKind.wrap IntKind.i64 (j1 + 1))), (0, (j1, ())))), (IntKind.wrap IntKind.i64 (j1 + 1), (0, ()))), ())
                    else none
                  else none
                else none
              else bif bt s0 j1 == 44 then
                if 0 ≤ j1 then
                  if j1 ≤ IntKind.wrap IntKind.i64 (j1 + 1) then
                    if IntKind.wrap IntKind.i64 (j1 + 1) ≤ (↑(ByteArray.size s0) : Int) then
                      bif decide ((↑(ByteArray.size (ByteArray.extract s0 (Int.toNat j1) (Int.toNat (IntKind.wrap IntKind.i64 (j1 + 1))))) : Int) > 32) then
                        some (((5, (ByteArray.extract s0 (Int.toNat j1) (Int.toNat (IntKind.wrap IntKind.i64 (j1 + 1))), (0, (j1, ())))), (0, (71, ()))), ())
                      else some (((5, (ByteArray.extract s0 (Int.toNat j1) (Int.toNat (IntKind.wrap IntKind.i64 (j1 + 1))), (0, (j1, ())))), (IntKind.wrap IntKind.i64 (j1 + 1), (0, ()))), ())
                    else none
                  else none
                else none
              else bif bt s0 j1 == 46 then
                if 0 ≤ j1 then
                  if j1 ≤ IntKind.wrap IntKind.i64 (j1 + 1) then
                    if IntKind.wrap IntKind.i64 (j1 + 1) ≤ (↑(ByteArray.size s0) : Int) then
                      bif decide ((↑(ByteArray.size (ByteArray.extract s0 (Int.toNat j1) (Int.toNat (IntKind.wrap IntKind.i64 (j1 + 1))))) : Int) > 32) then
                        some (((5, (ByteArray.extract s0 (Int.toNat j1) (Int.toNat (IntKind.wrap IntKind.i64 (j1 + 1))), (0, (j1, ())))), (0, (71, ()))), ())
                      else some (((5, (ByteArray.extract s0 (Int.toNat j1) (Int.toNat (IntKind.wrap IntKind.i64 (j1 + 1))), (0, (j1, ())))), (IntKind.wrap IntKind.i64 (j1 + 1), (0, ()))), ())
                    else none
                  else none
                else none
              else bif bt s0 j1 == 58 then
                if 0 ≤ j1 then
                  if j1 ≤ IntKind.wrap IntKind.i64 (j1 + 1) then
                    if IntKind.wrap IntKind.i64 (j1 + 1) ≤ (↑(ByteArray.size s0) : Int) then
                      bif decide ((↑(ByteArray.size (ByteArray.extract s0 (Int.toNat j1) (Int.toNat (IntKind.wrap IntKind.i64 (j1 + 1))))) : Int) > 32) then
                        some (((5, (ByteArray.extract s0 (Int.toNat j1) (Int.toNat (IntKind.wrap IntKind.i64 (j1 + 1))), (0, (j1, ())))), (0, (71, ()))), ())
                      else some (((5, (ByteArray.extract s0 (Int.toNat j1) (Int.toNat (IntKind.wrap IntKind.i64 (j1 + 1))), (0, (j1, ())))), (IntKind.wrap IntKind.i64 (j1 + 1), (0, ()))), ())
                    else none
                  else none
                else none
              else some (((0, (ByteArray.mk #[], (0, (j1, ())))), (0, (70, ()))), ())
            else none
          else none
        else bif bt s0 j1 == 40 then
          if 0 ≤ j1 then
            if j1 ≤ IntKind.wrap IntKind.i64 (j1 + 1) then
              if IntKind.wrap IntKind.i64 (j1 + 1) ≤ (↑(ByteArray.size s0) : Int) then
                bif decide ((↑(ByteArray.size (ByteArray.extract s0 (Int.toNat j1) (Int.toNat (IntKind.wrap IntKind.i64 (j1 + 1))))) : Int) > 32) then
                  some (((5, (ByteArray.extract s0 (Int.toNat j1) (Int.toNat (IntKind.wrap IntKind.i64 (j1 + 1))), (0, (j1, ())))), (0, (71, ()))), ())
                else some (((5, (ByteArray.extract s0 (Int.toNat j1) (Int.toNat (IntKind.wrap IntKind.i64 (j1 + 1))), (0, (j1, ())))), (IntKind.wrap IntKind.i64 (j1 + 1), (0, ()))), ())
              else none
            else none
          else none
        else bif bt s0 j1 == 41 then
          if 0 ≤ j1 then
            if j1 ≤ IntKind.wrap IntKind.i64 (j1 + 1) then
              if IntKind.wrap IntKind.i64 (j1 + 1) ≤ (↑(ByteArray.size s0) : Int) then
                bif decide ((↑(ByteArray.size (ByteArray.extract s0 (Int.toNat j1) (Int.toNat (IntKind.wrap IntKind.i64 (j1 + 1))))) : Int) > 32) then
                  some (((5, (ByteArray.extract s0 (Int.toNat j1) (Int.toNat (IntKind.wrap IntKind.i64 (j1 + 1))), (0, (j1, ())))), (0, (71, ()))), ())
                else some (((5, (ByteArray.extract s0 (Int.toNat j1) (Int.toNat (IntKind.wrap IntKind.i64 (j1 + 1))), (0, (j1, ())))), (IntKind.wrap IntKind.i64 (j1 + 1), (0, ()))), ())
              else none
            else none
          else none
        else bif bt s0 j1 == 44 then
          if 0 ≤ j1 then
            if j1 ≤ IntKind.wrap IntKind.i64 (j1 + 1) then
              if IntKind.wrap IntKind.i64 (j1 + 1) ≤ (↑(ByteArray.size s0) : Int) then
                bif decide ((↑(ByteArray.size (ByteArray.extract s0 (Int.toNat j1) (Int.toNat (IntKind.wrap IntKind.i64 (j1 + 1))))) : Int) > 32) then
                  some (((5, (ByteArray.extract s0 (Int.toNat j1) (Int.toNat (IntKind.wrap IntKind.i64 (j1 + 1))), (0, (j1, ())))), (0, (71, ()))), ())
                else some (((5, (ByteArray.extract s0 (Int.toNat j1) (Int.toNat (IntKind.wrap IntKind.i64 (j1 + 1))), (0, (j1, ())))), (IntKind.wrap IntKind.i64 (j1 + 1), (0, ()))), ())
              else none
            else none
          else none
        else bif bt s0 j1 == 46 then
          if 0 ≤ j1 then
            if j1 ≤ IntKind.wrap IntKind.i64 (j1 + 1) then
              if IntKind.wrap IntKind.i64 (j1 + 1) ≤ (↑(ByteArray.size s0) : Int) then
                bif decide ((↑(ByteArray.size (ByteArray.extract s0 (Int.toNat j1) (Int.toNat (IntKind.wrap IntKind.i64 (j1 + 1))))) : Int) > 32) then
                  some (((5, (ByteArray.extract s0 (Int.toNat j1) (Int.toNat (IntKind.wrap IntKind.i64 (j1 + 1))), (0, (j1, ())))), (0, (71, ()))), ())
                else some (((5, (ByteArray.extract s0 (Int.toNat j1) (Int.toNat (IntKind.wrap IntKind.i64 (j1 + 1))), (0, (j1, ())))), (IntKind.wrap IntKind.i64 (j1 + 1), (0, ()))), ())
              else none
            else none
          else none
        else bif bt s0 j1 == 58 then
          if 0 ≤ j1 then
            if j1 ≤ IntKind.wrap IntKind.i64 (j1 + 1) then
              if IntKind.wrap IntKind.i64 (j1 + 1) ≤ (↑(ByteArray.size s0) : Int) then
                bif decide ((↑(ByteArray.size (ByteArray.extract s0 (Int.toNat j1) (Int.toNat (IntKind.wrap IntKind.i64 (j1 + 1))))) : Int) > 32) then
                  some (((5, (ByteArray.extract s0 (Int.toNat j1) (Int.toNat (IntKind.wrap IntKind.i64 (j1 + 1))), (0, (j1, ())))), (0, (71, ()))), ())
                else some (((5, (ByteArray.extract s0 (Int.toNat j1) (Int.toNat (IntKind.wrap IntKind.i64 (j1 + 1))), (0, (j1, ())))), (IntKind.wrap IntKind.i64 (j1 + 1), (0, ()))), ())
              else none
            else none
          else none
        else some (((0, (ByteArray.mk #[], (0, (j1, ())))), (0, (70, ()))), ())
      else bif bt s0 j1 == 40 then
        if 0 ≤ j1 then
          if j1 ≤ IntKind.wrap IntKind.i64 (j1 + 1) then
            if IntKind.wrap IntKind.i64 (j1 + 1) ≤ (↑(ByteArray.size s0) : Int) then
              bif decide ((↑(ByteArray.size (ByteArray.extract s0 (Int.toNat j1) (Int.toNat (IntKind.wrap IntKind.i64 (j1 + 1))))) : Int) > 32) then
                some (((5, (ByteArray.extract s0 (Int.toNat j1) (Int.toNat (IntKind.wrap IntKind.i64 (j1 + 1))), (0, (j1, ())))), (0, (71, ()))), ())
              else some (((5, (ByteArray.extract s0 (Int.toNat j1) (Int.toNat (IntKind.wrap IntKind.i64 (j1 + 1))), (0, (j1, ())))), (IntKind.wrap IntKind.i64 (j1 + 1), (0, ()))), ())
            else none
          else none
        else none
      else bif bt s0 j1 == 41 then
        if 0 ≤ j1 then
          if j1 ≤ IntKind.wrap IntKind.i64 (j1 + 1) then
            if IntKind.wrap IntKind.i64 (j1 + 1) ≤ (↑(ByteArray.size s0) : Int) then
              bif decide ((↑(ByteArray.size (ByteArray.extract s0 (Int.toNat j1) (Int.toNat (IntKind.wrap IntKind.i64 (j1 + 1))))) : Int) > 32) then
                some (((5, (ByteArray.extract s0 (Int.toNat j1) (Int.toNat (IntKind.wrap IntKind.i64 (j1 + 1))), (0, (j1, ())))), (0, (71, ()))), ())
              else some (((5, (ByteArray.extract s0 (Int.toNat j1) (Int.toNat (IntKind.wrap IntKind.i64 (j1 + 1))), (0, (j1, ())))), (IntKind.wrap IntKind.i64 (j1 + 1), (0, ()))), ())
            else none
          else none
        else none
      else bif bt s0 j1 == 44 then
        if 0 ≤ j1 then
          if j1 ≤ IntKind.wrap IntKind.i64 (j1 + 1) then
            if IntKind.wrap IntKind.i64 (j1 + 1) ≤ (↑(ByteArray.size s0) : Int) then
              bif decide ((↑(ByteArray.size (ByteArray.extract s0 (Int.toNat j1) (Int.toNat (IntKind.wrap IntKind.i64 (j1 + 1))))) : Int) > 32) then
                some (((5, (ByteArray.extract s0 (Int.toNat j1) (Int.toNat (IntKind.wrap IntKind.i64 (j1 + 1))), (0, (j1, ())))), (0, (71, ()))), ())
              else some (((5, (ByteArray.extract s0 (Int.toNat j1) (Int.toNat (IntKind.wrap IntKind.i64 (j1 + 1))), (0, (j1, ())))), (IntKind.wrap IntKind.i64 (j1 + 1), (0, ()))), ())
            else none
          else none
        else none
      else bif bt s0 j1 == 46 then
        if 0 ≤ j1 then
          if j1 ≤ IntKind.wrap IntKind.i64 (j1 + 1) then
            if IntKind.wrap IntKind.i64 (j1 + 1) ≤ (↑(ByteArray.size s0) : Int) then
              bif decide ((↑(ByteArray.size (ByteArray.extract s0 (Int.toNat j1) (Int.toNat (IntKind.wrap IntKind.i64 (j1 + 1))))) : Int) > 32) then
                some (((5, (ByteArray.extract s0 (Int.toNat j1) (Int.toNat (IntKind.wrap IntKind.i64 (j1 + 1))), (0, (j1, ())))), (0, (71, ()))), ())
              else some (((5, (ByteArray.extract s0 (Int.toNat j1) (Int.toNat (IntKind.wrap IntKind.i64 (j1 + 1))), (0, (j1, ())))), (IntKind.wrap IntKind.i64 (j1 + 1), (0, ()))), ())
            else none
          else none
        else none
      else bif bt s0 j1 == 58 then
        if 0 ≤ j1 then
          if j1 ≤ IntKind.wrap IntKind.i64 (j1 + 1) then
            if IntKind.wrap IntKind.i64 (j1 + 1) ≤ (↑(ByteArray.size s0) : Int) then
              bif decide ((↑(ByteArray.size (ByteArray.extract s0 (Int.toNat j1) (Int.toNat (IntKind.wrap IntKind.i64 (j1 + 1))))) : Int) > 32) then
                some (((5, (ByteArray.extract s0 (Int.toNat j1) (Int.toNat (IntKind.wrap IntKind.i64 (j1 + 1))), (0, (j1, ())))), (0, (71, ()))), ())
              else some (((5, (ByteArray.extract s0 (Int.toNat j1) (Int.toNat (IntKind.wrap IntKind.i64 (j1 + 1))), (0, (j1, ())))), (IntKind.wrap IntKind.i64 (j1 + 1), (0, ()))), ())
            else none
          else none
        else none
      else some (((0, (ByteArray.mk #[], (0, (j1, ())))), (0, (70, ()))), ())
    else none
  else none := by kernel_rfl
theorem lex_one_c (n : Nat) (s0 : ByteArray) (j1 : Int) (y : ((Int × ByteArray × Int × Int × Unit) × Int × Int × Unit) × Unit) (h : lex_one_v n s0 j1 = some y) : Contract Tryd.prog 70 [AV.dv (DV.val (Value.string s0)), AV.dv (DV.val (Value.int IntKind.i64 j1))] [] (OSh.enc (OSh.plain (.tup [.agg [.i IntKind.i64, .s, .i IntKind.i64, .i IntKind.i64], .i IntKind.i64, .i IntKind.i64]) []) y) :=
  auto_okM tm_std (with_ok mixed (by kernel_rfl) (lex_one_σok n) n 0 [1000042, 1000043, 1000044, 1000045, 1000046, 1000059, 1000067]) (with_pick mixed (by kernel_rfl) (lex_one_σok n) n 0 [1000042, 1000043, 1000044, 1000045, 1000046, 1000059, 1000067]) mixed Tryd.func70 (by decide) (o := (OSh.plain (.tup [.agg [.i IntKind.i64, .s, .i IntKind.i64, .i IntKind.i64], .i IntKind.i64, .i IntKind.i64]) [])) h
/-! lex_Tokens: function 50 -/
def lex_Tokens_lv : Live := [(4, [0, 2, 3], [1000, 1001, 1002, 1003])]
noncomputable def lex_Tokens_σ (n : Nat) : Spec := (inst 69 [.s, .i IntKind.i64] [] (OSh.plain (.i IntKind.i64) []) (fun x e => lex_skip_v n x.1 x.2.1) (inst 70 [.s, .i IntKind.i64] [] (OSh.plain (.tup [.agg [.i IntKind.i64, .s, .i IntKind.i64, .i IntKind.i64], .i IntKind.i64, .i IntKind.i64]) []) (fun x e => lex_one_v n x.1 x.2.1) Spec.none))
theorem lex_Tokens_σok (n : Nat) : SpecOk Tryd.prog (lex_Tokens_σ n) := (inst_ok (fun x e y h => lex_skip_c n x.1 x.2.1 y h) (inst_ok (fun x e y h => lex_one_c n x.1 x.2.1 y h) (SpecOk.none _)))
noncomputable def lex_Tokens_Φ (n : Nat) : Orc := with_ Tryd.prog (lex_Tokens_σ n) [] n 0 [1000042, 1000043, 1000044, 1000045, 1000046, 1000059, 1000067]
noncomputable def lex_Tokens_v (n : Nat) (s0 : ByteArray) : Option (((Bool × Rows) × Int × Int × Unit) × Unit) :=
  DM.denFn tm (lex_Tokens_Φ n) lex_Tokens_lv n Tryd.f50 false [AV.dv (DV.val (Value.string s0))] [] (OSh.chk (OSh.plain (.tup [.sl [Kd.i IntKind.i64, Kd.s, Kd.i IntKind.i64, Kd.i IntKind.i64], .i IntKind.i64, .i IntKind.i64]) []))
noncomputable def lex_Tokens_l4 (n : Nat) (s0 : ByteArray) (i0 : Nat) (j2 : Int) (b5 : Bool) (r6 : List (List DV)) : Option (((Bool × Rows) × Int × Int × Unit) × Unit) :=
  DM.loopFn tm (lex_Tokens_Φ n) lex_Tokens_lv n Tryd.f50 false [] (OSh.chk (OSh.plain (.tup [.sl [Kd.i IntKind.i64, Kd.s, Kd.i IntKind.i64, Kd.i IntKind.i64], .i IntKind.i64, .i IntKind.i64]) [])) 4 [] i0 (St.mk [AV.dv (DV.val (Value.string s0)), AV.junk, AV.sl b5 [Kd.i IntKind.i64, Kd.s, Kd.i IntKind.i64, Kd.i IntKind.i64] r6 (Right.tok 2), AV.dv (DV.val (Value.int IntKind.i64 j2)), AV.junk, AV.junk, AV.junk, AV.junk, AV.junk, AV.junk, AV.junk, AV.junk, AV.junk, AV.junk, AV.junk, AV.junk, AV.junk, AV.junk, AV.junk, AV.junk, AV.junk, AV.junk, AV.junk, AV.junk, AV.junk, AV.junk, AV.junk, AV.junk, AV.junk, AV.junk, AV.junk, AV.junk, AV.junk, AV.junk, AV.junk, AV.junk] [])
theorem lex_Tokens_s4 (n : Nat) (s0 : ByteArray) (i0 : Nat) (j2 : Int) (b5 : Bool) (r6 : List (List DV)) : lex_Tokens_l4 n s0 (i0 + 1) j2 b5 r6 =
  bif decide (j2 < (↑(ByteArray.size s0) : Int)) then
    obind (lex_one_v n s0 j2) fun y7 =>
    bif y7.fst.snd.snd.fst != 0 then
      some (((true, []), (j2, (y7.fst.snd.snd.fst, ()))), ())
    else if (List.length r6 + List.length [[DV.val (Value.int IntKind.i64 y7.fst.fst.fst), DV.val (Value.string y7.fst.fst.snd.fst), DV.val (Value.int IntKind.i64 y7.fst.fst.snd.snd.fst), DV.val (Value.int IntKind.i64 y7.fst.fst.snd.snd.snd.fst)]]) * 40 ≤ 140737488355328 then
      obind (lex_skip_v n s0 y7.fst.snd.fst) fun y8 =>
      lex_Tokens_l4 n s0 i0 y8.fst (b5 && List.isEmpty [[DV.val (Value.int IntKind.i64 y7.fst.fst.fst), DV.val (Value.string y7.fst.fst.snd.fst), DV.val (Value.int IntKind.i64 y7.fst.fst.snd.snd.fst), DV.val (Value.int IntKind.i64 y7.fst.fst.snd.snd.snd.fst)]]) (appX r6 [[DV.val (Value.int IntKind.i64 y7.fst.fst.fst), DV.val (Value.string y7.fst.fst.snd.fst), DV.val (Value.int IntKind.i64 y7.fst.fst.snd.snd.fst), DV.val (Value.int IntKind.i64 y7.fst.fst.snd.snd.snd.fst)]])
    else none
  else some (((b5, r6), (0, (0, ()))), ()) := by kernel_rfl
theorem lex_Tokens_e (n : Nat) (s0 : ByteArray) : lex_Tokens_v n s0 =
  bif decide ((↑(ByteArray.size s0) : Int) > 4096) then
    some (((true, []), (0, (3, ()))), ())
  else obind (lex_skip_v n s0 0) fun y1 =>
  lex_Tokens_l4 n s0 n y1.fst true [] := by kernel_rfl
theorem lex_Tokens_c (n : Nat) (s0 : ByteArray) (y : ((Bool × Rows) × Int × Int × Unit) × Unit) (h : lex_Tokens_v n s0 = some y) : Contract Tryd.prog 50 [AV.dv (DV.val (Value.string s0))] [] (OSh.enc (OSh.plain (.tup [.sl [Kd.i IntKind.i64, Kd.s, Kd.i IntKind.i64, Kd.i IntKind.i64], .i IntKind.i64, .i IntKind.i64]) []) y) :=
  auto_okM tm_std (with_ok mixed (by kernel_rfl) (lex_Tokens_σok n) n 0 [1000042, 1000043, 1000044, 1000045, 1000046, 1000059, 1000067]) (with_pick mixed (by kernel_rfl) (lex_Tokens_σok n) n 0 [1000042, 1000043, 1000044, 1000045, 1000046, 1000059, 1000067]) mixed Tryd.func50 (by decide) (o := (OSh.plain (.tup [.sl [Kd.i IntKind.i64, Kd.s, Kd.i IntKind.i64, Kd.i IntKind.i64], .i IntKind.i64, .i IntKind.i64]) [])) h
/-! show_variable: function 34 -/
def show_variable_lv : Live := []
noncomputable def show_variable_σ (n : Nat) : Spec := (inst 50 [.s] [] (OSh.plain (.tup [.sl [Kd.i IntKind.i64, Kd.s, Kd.i IntKind.i64, Kd.i IntKind.i64], .i IntKind.i64, .i IntKind.i64]) []) (fun x e => lex_Tokens_v n x.1) Spec.none)
theorem show_variable_σok (n : Nat) : SpecOk Tryd.prog (show_variable_σ n) := (inst_ok (fun x e y h => lex_Tokens_c n x.1 y h) (SpecOk.none _))
noncomputable def show_variable_Φ (n : Nat) : Orc := with_ Tryd.prog (show_variable_σ n) [] n 0 [1000042, 1000043, 1000044, 1000045, 1000046, 1000059, 1000067]
noncomputable def show_variable_v (n : Nat) (s0 : ByteArray) : Option (Bool × Unit) :=
  DM.denFn tm (show_variable_Φ n) show_variable_lv n Tryd.f34 false [AV.dv (DV.val (Value.string s0))] [] (OSh.chk (OSh.plain (.b) []))
theorem show_variable_e (n : Nat) (s0 : ByteArray) : show_variable_v n s0 =
  obind (lex_Tokens_v n s0) fun y1 =>
  bif y1.fst.snd.snd.fst == 0 then
    bif (↑(List.length y1.fst.fst.snd) : Int) == 1 then
      if 0 < (↑(List.length y1.fst.fst.snd) : Int) then
        bif Row.I (List.getD y1.fst.fst.snd 0 []) 0 == 2 then
          if 0 < (↑(List.length y1.fst.fst.snd) : Int) then
            some (Row.S (List.getD y1.fst.fst.snd 0 []) 1 == s0, ())
          else none
        else some (false, ())
      else none
    else some (false, ())
  else some (false, ()) := by kernel_rfl
theorem show_variable_c (n : Nat) (s0 : ByteArray) (y : Bool × Unit) (h : show_variable_v n s0 = some y) : Contract Tryd.prog 34 [AV.dv (DV.val (Value.string s0))] [] (OSh.enc (OSh.plain (.b) []) y) :=
  auto_okM tm_std (with_ok mixed (by kernel_rfl) (show_variable_σok n) n 0 [1000042, 1000043, 1000044, 1000045, 1000046, 1000059, 1000067]) (with_pick mixed (by kernel_rfl) (show_variable_σok n) n 0 [1000042, 1000043, 1000044, 1000045, 1000046, 1000059, 1000067]) mixed Tryd.func34 (by decide) (o := (OSh.plain (.b) [])) h
/-! show_plain: function 36 -/
def show_plain_lv : Live := [(2, [0, 5, 6], [1000, 1001, 1002, 1003])]
noncomputable def show_plain_σ (n : Nat) : Spec := Spec.none
theorem show_plain_σok (n : Nat) : SpecOk Tryd.prog (show_plain_σ n) := (SpecOk.none _)
noncomputable def show_plain_Φ (n : Nat) : Orc := with_ Tryd.prog (show_plain_σ n) [] n 0 [1000042, 1000043, 1000044, 1000045, 1000046, 1000059, 1000067]
noncomputable def show_plain_v (n : Nat) (s0 : ByteArray) : Option (Bool × Unit) :=
  DM.denFn tm (show_plain_Φ n) show_plain_lv n Tryd.f36 false [AV.dv (DV.val (Value.string s0))] [] (OSh.chk (OSh.plain (.b) []))
noncomputable def show_plain_l2 (n : Nat) (s0 : ByteArray) (i0 : Nat) (j1 : Int) : Option (Bool × Unit) :=
  DM.loopFn tm (show_plain_Φ n) show_plain_lv n Tryd.f36 false [] (OSh.chk (OSh.plain (.b) [])) 2 [] i0 (St.mk [AV.dv (DV.val (Value.string s0)), AV.junk, AV.junk, AV.junk, AV.junk, AV.dv (DV.val (Value.int IntKind.i64 (↑(ByteArray.size s0) : Int))), AV.dv (DV.val (Value.int IntKind.i64 j1)), AV.junk, AV.junk, AV.junk, AV.junk, AV.junk, AV.junk, AV.junk, AV.junk, AV.junk, AV.junk, AV.junk, AV.junk, AV.junk, AV.junk, AV.junk, AV.junk, AV.junk, AV.junk, AV.junk, AV.junk, AV.junk, AV.junk, AV.junk, AV.junk, AV.junk, AV.junk, AV.junk, AV.junk, AV.junk, AV.junk, AV.junk, AV.junk, AV.junk] [])
theorem show_plain_s2 (n : Nat) (s0 : ByteArray) (i0 : Nat) (j1 : Int) : show_plain_l2 n s0 (i0 + 1) j1 =
  bif decide (j1 < (↑(ByteArray.size s0) : Int)) then
    if 0 ≤ j1 then
      if j1 < (↑(ByteArray.size s0) : Int) then
        bif decide (bt s0 j1 < 32) then
          some (false, ())
        else if 0 ≤ j1 then
          if j1 < (↑(ByteArray.size s0) : Int) then
            bif decide (bt s0 j1 > 126) then
              some (false, ())
            else if 0 ≤ j1 then
              if j1 < (↑(ByteArray.size s0) : Int) then
                bif bt s0 j1 == 34 then
                  some (false, ())
                else if 0 ≤ j1 then
                  if j1 < (↑(ByteArray.size s0) : Int) then
                    bif bt s0 j1 == 92 then
                      some (false, ())
                    else show_plain_l2 n s0 i0 (IntKind.wrap IntKind.i64 (j1 + 1))
                  else none
                else none
              else none
            else none
          else none
        else none
      else none
    else none
  else bif decide ((↑(ByteArray.size s0) : Int) ≥ 1) then
    some (decide ((↑(ByteArray.size s0) : Int) ≤ 32), ())
  else some (false, ()) := by kernel_rfl
theorem show_plain_e (n : Nat) (s0 : ByteArray) : show_plain_v n s0 =
  show_plain_l2 n s0 n 0 := by kernel_rfl
theorem show_plain_c (n : Nat) (s0 : ByteArray) (y : Bool × Unit) (h : show_plain_v n s0 = some y) : Contract Tryd.prog 36 [AV.dv (DV.val (Value.string s0))] [] (OSh.enc (OSh.plain (.b) []) y) :=
  auto_okM tm_std (with_ok mixed (by kernel_rfl) (show_plain_σok n) n 0 [1000042, 1000043, 1000044, 1000045, 1000046, 1000059, 1000067]) (with_pick mixed (by kernel_rfl) (show_plain_σok n) n 0 [1000042, 1000043, 1000044, 1000045, 1000046, 1000059, 1000067]) mixed Tryd.func36 (by decide) (o := (OSh.plain (.b) [])) h
/-! show_word: function 37 -/
def show_word_lv : Live := []
noncomputable def show_word_σ (n : Nat) : Spec := (inst 50 [.s] [] (OSh.plain (.tup [.sl [Kd.i IntKind.i64, Kd.s, Kd.i IntKind.i64, Kd.i IntKind.i64], .i IntKind.i64, .i IntKind.i64]) []) (fun x e => lex_Tokens_v n x.1) Spec.none)
theorem show_word_σok (n : Nat) : SpecOk Tryd.prog (show_word_σ n) := (inst_ok (fun x e y h => lex_Tokens_c n x.1 y h) (SpecOk.none _))
noncomputable def show_word_Φ (n : Nat) : Orc := with_ Tryd.prog (show_word_σ n) [] n 0 [1000042, 1000043, 1000044, 1000045, 1000046, 1000059, 1000067]
noncomputable def show_word_v (n : Nat) (s0 : ByteArray) : Option (Bool × Unit) :=
  DM.denFn tm (show_word_Φ n) show_word_lv n Tryd.f37 false [AV.dv (DV.val (Value.string s0))] [] (OSh.chk (OSh.plain (.b) []))
theorem show_word_e (n : Nat) (s0 : ByteArray) : show_word_v n s0 =
  obind (lex_Tokens_v n s0) fun y1 =>
  bif y1.fst.snd.snd.fst == 0 then
    bif (↑(List.length y1.fst.fst.snd) : Int) == 1 then
      if 0 < (↑(List.length y1.fst.fst.snd) : Int) then
        bif Row.I (List.getD y1.fst.fst.snd 0 []) 0 == 1 then
          if 0 < (↑(List.length y1.fst.fst.snd) : Int) then
            bif Row.S (List.getD y1.fst.fst.snd 0 []) 1 == s0 then
              bif !s0 == ByteArray.mk #[115, 97, 121, 115] then
                bif !s0 == ByteArray.mk #[116, 111] then
                  some (!s0 == ByteArray.mk #[97, 116], ())
                else some (false, ())
              else some (false, ())
            else some (false, ())
          else none
        else some (false, ())
      else none
    else some (false, ())
  else some (false, ()) := by kernel_rfl
theorem show_word_c (n : Nat) (s0 : ByteArray) (y : Bool × Unit) (h : show_word_v n s0 = some y) : Contract Tryd.prog 37 [AV.dv (DV.val (Value.string s0))] [] (OSh.enc (OSh.plain (.b) []) y) :=
  auto_okM tm_std (with_ok mixed (by kernel_rfl) (show_word_σok n) n 0 [1000042, 1000043, 1000044, 1000045, 1000046, 1000059, 1000067]) (with_pick mixed (by kernel_rfl) (show_word_σok n) n 0 [1000042, 1000043, 1000044, 1000045, 1000046, 1000059, 1000067]) mixed Tryd.func37 (by decide) (o := (OSh.plain (.b) [])) h
end Go.Den
namespace Go.Proofs
open Go.Shelf
def itoaLays_ren : Go.Shelf.Ren := ⟨fun | 171 => 35 | 243 => 64 | 246 => 86 | 283 => 102 | 284 => 103 | 285 => 104 | 286 => 105 | 129 => 108 | 317 => 107 | 318 => 109 | 319 => 110 | 320 => 111 | 337 => 112 | 338 => 113 | n => n, fun | 3 => 3 | 9 => 9 | 2 => 2 | 4 => 4 | 171 => 130 | 0 => 0 | 53 => 131 | 37 => 69 | 5 => 5 | 173 => 134 | 212 => 138 | 51 => 139 | 20 => 20 | 213 => 140 | 46 => 54 | 232 => 144 | 233 => 145 | n => n, fun | 17 => 0 | 18 => 1 | 19 => 2 | n => n⟩
theorem itoaLays : Go.Proofs.LaysM.n171 Tryd.prog itoaLays_ren := {
  mixed := by kernel_rfl
  f129 := Tryd.func108.trans (congrArg some (by kernel_rfl))
  f171 := Tryd.func35.trans (congrArg some (by kernel_rfl))
  f243 := Tryd.func64.trans (congrArg some (by kernel_rfl))
  f246 := Tryd.func86.trans (congrArg some (by kernel_rfl))
  f283 := Tryd.func102.trans (congrArg some (by kernel_rfl))
  f284 := Tryd.func103.trans (congrArg some (by kernel_rfl))
  f285 := Tryd.func104.trans (congrArg some (by kernel_rfl))
  f286 := Tryd.func105.trans (congrArg some (by kernel_rfl))
  f317 := Tryd.func107.trans (congrArg some (by kernel_rfl))
  f318 := Tryd.func109.trans (congrArg some (by kernel_rfl))
  f319 := Tryd.func110.trans (congrArg some (by kernel_rfl))
  f320 := Tryd.func111.trans (congrArg some (by kernel_rfl))
  f337 := Tryd.func112.trans (congrArg some (by kernel_rfl))
  f338 := Tryd.func113.trans (congrArg some (by kernel_rfl))
  t0 := Tryd.underlying0
  a0 := Tryd.isAgg0
  z0 := Tryd.sizeOf0
  v0 := Tryd.zeroValue0
  t2 := Tryd.underlying2
  a2 := Tryd.isAgg2
  z2 := Tryd.sizeOf2
  v2 := Tryd.zeroValue2
  t3 := Tryd.underlying3
  a3 := Tryd.isAgg3
  z3 := Tryd.sizeOf3
  v3 := Tryd.zeroValue3
  t4 := Tryd.underlying4
  a4 := Tryd.isAgg4
  z4 := Tryd.sizeOf4
  v4 := Tryd.zeroValue4
  t5 := Tryd.underlying5
  a5 := Tryd.isAgg5
  z5 := Tryd.sizeOf5
  v5 := Tryd.zeroValue5
  t9 := Tryd.underlying9
  a9 := Tryd.isAgg9
  z9 := Tryd.sizeOf9
  v9 := Tryd.zeroValue9
  t20 := Tryd.underlying20
  a20 := Tryd.isAgg20
  z20 := Tryd.sizeOf20
  v20 := Tryd.zeroValue20
  t37 := Tryd.underlying69
  a37 := Tryd.isAgg69
  z37 := Tryd.sizeOf69
  v37 := Tryd.zeroValue69
  t46 := Tryd.underlying54
  a46 := Tryd.isAgg54
  z46 := Tryd.sizeOf54
  v46 := Tryd.zeroValue54
  t51 := Tryd.underlying139
  a51 := Tryd.isAgg139
  z51 := Tryd.sizeOf139
  v51 := Tryd.zeroValue139
  t53 := Tryd.underlying131
  a53 := Tryd.isAgg131
  z53 := Tryd.sizeOf131
  v53 := Tryd.zeroValue131
  t171 := Tryd.underlying130
  a171 := Tryd.isAgg130
  z171 := Tryd.sizeOf130
  v171 := Tryd.zeroValue130
  t173 := Tryd.underlying134
  a173 := Tryd.isAgg134
  z173 := Tryd.sizeOf134
  v173 := Tryd.zeroValue134
  t212 := Tryd.underlying138
  a212 := Tryd.isAgg138
  z212 := Tryd.sizeOf138
  v212 := Tryd.zeroValue138
  t213 := Tryd.underlying140
  a213 := Tryd.isAgg140
  z213 := Tryd.sizeOf140
  t232 := Tryd.underlying144
  a232 := Tryd.isAgg144
  z232 := Tryd.sizeOf144
  v232 := Tryd.zeroValue144
  t233 := Tryd.underlying145
  a233 := Tryd.isAgg145
  z233 := Tryd.sizeOf145
  v233 := Tryd.zeroValue145
  g17 := by kernel_rfl
  g18 := by kernel_rfl
  g19 := by kernel_rfl
  i0 := by kernel_rfl
  i2 := by kernel_rfl
  i3 := by kernel_rfl
  i4 := by kernel_rfl
  i5 := by kernel_rfl
  i9 := by kernel_rfl
  i20 := by kernel_rfl
  i37 := by kernel_rfl
  i46 := by kernel_rfl
  i51 := by kernel_rfl
  i53 := by kernel_rfl
  i171 := by kernel_rfl
  i173 := by kernel_rfl
  i212 := by kernel_rfl
  i232 := by kernel_rfl
  i233 := by kernel_rfl
  m17 := by kernel_rfl
  m18 := by kernel_rfl
  m19 := by kernel_rfl }
end Go.Proofs
/- strings.Builder within another variable: what its methods do. -/
namespace Go.Den
open Go.Proofs Go.RowKit
set_option maxHeartbeats 1000000 in
set_option maxRecDepth 100000 in
theorem copy_used (b : Nat) (w : World) (h0 : w.cell? ⟨b, 0, none⟩ = some (.pointer (some ⟨b, 0, none⟩))) :
    Calls Tryd.prog 67 #[.pointer (some ⟨b, 0, none⟩)] w fun e w' => e = .returned (.tuple #[]) ∧ w' = w := by
  obtain ⟨j, hj, _⟩ := Option.map_eq_some_iff.1 (show (Tryd.prog.info? 71).map (·.size) = some 2 by kernel_rfl)
  have mixed : Tryd.prog.follows .mixedOrders = true := by kernel_rfl
  go_enter Tryd.func67, Tryd.ntmps67
  go_wp2
  rw [Lib.run_neq_ptr_same w _ Tryd.underlying68 hj]
  go_wp2
  go_end0
  exact ⟨rfl, rfl⟩
set_option maxHeartbeats 1000000 in
set_option maxRecDepth 100000 in
theorem copy_new (b : Nat) (w : World) (h0 : w.cell? ⟨b, 0, none⟩ = some (.pointer none)) (hsh : w.shape? b = some (73, 3)) (hfz : w.frozen? ⟨b, 0, none⟩ = false) :
    Calls Tryd.prog 67 #[.pointer (some ⟨b, 0, none⟩)] w fun e w' => e = .returned (.tuple #[]) ∧ w' = w.setCell ⟨b, 0, none⟩ (.pointer (some ⟨b, 0, none⟩)) := by
  obtain ⟨j, hj, hjs⟩ := Option.map_eq_some_iff.1 (show (Tryd.prog.info? 71).map (·.size) = some 2 by kernel_rfl)
  have mixed : Tryd.prog.follows .mixedOrders = true := by kernel_rfl
  go_enter Tryd.func67, Tryd.ntmps67
  go_wp2
  rw [Lib.run_to_unsafe w ⟨b, 0, none⟩ Tryd.underlying68 Tryd.underlying123 hj (by rw [hjs]; decide) hsh (Nat.zero_lt_succ 2)]
  simp only [Result.andThen]
  rw [Oper.upon_value]
  go_wp2
  rw [run_callFunc_extern Tryd.func90 (by kernel_rfl) (by kernel_rfl) (by kernel_rfl) (e := Extern.AbiNoEscape.same) (by kernel_rfl)]
  rw [Lib.run_noEscape]
  simp only [Result.andThen]
  rw [Oper.upon_value]
  go_wp2
  rw [Lib.run_from_unsafe w ⟨b, 0, none⟩ Tryd.underlying123 Tryd.underlying68 hj hsh (by kernel_rfl)]
  simp only [Result.andThen]
  rw [Oper.upon_value]
  go_wp2
  go_end0
  exact ⟨rfl, rfl⟩
set_option maxHeartbeats 1000000 in
set_option maxRecDepth 100000 in
theorem string_walk (b g cap : Nat) (l : List UInt8) (h0 : l ≠ []) (cur : Array Value) (w : World) (hc1 : w.cell? ⟨b, 1, none⟩ = some (.slice (some ⟨g, 0, none⟩) l.length cap)) (hg : w.heap[g]? = some (.cells cur 5 (0, 0)))
    (hn : l.length ≤ cap) (hcm : cap ≤ maxLen) (hcs : l.length ≤ cur.size) (hcell : ∀ j x, l[j]? = some x → w.cell? ((⟨g, 0, none⟩ : Addr).add j) = some (.int .u8 x.toNat)) :
    Calls Tryd.prog 46 #[.pointer (some ⟨b, 0, none⟩)] w fun e w' => e = .returned (.string ⟨l.toArray⟩) ∧ w' = w.drew.freeze ⟨g, 0, none⟩ l.length := by
  have hl0 : l.length ≠ 0 := by simpa using h0
  have c1 : w.drew.cell? ⟨b, 1, none⟩ = some (.slice (some ⟨g, 0, none⟩) l.length cap) := hc1
  have hSD : (Builtin.unsafeSliceData_ #[69] 107 #[.slice (some ⟨g, 0, none⟩) l.length cap]).run Tryd.prog w.drew = .ok (.pointer (some ⟨g, 0, none⟩)) w.drew :=
    Lib.run_unsafeSliceData_row _ _ _ _ _ _ (by omega)
  have hUS : (Builtin.unsafeString_ #[107, 3] 9 #[.pointer (some ⟨g, 0, none⟩), .int .i64 l.length]).run Tryd.prog w.drew = .ok (.string ⟨l.toArray⟩) (w.drew.freeze ⟨g, 0, none⟩ l.length) := by
    refine Lib.run_unsafeString_row w.drew 107 3 9 5 Tryd.underlying107 (by kernel_rfl) g cur.size (by have hg' : w.drew.heap[g]? = some (.cells cur 5 (0, 0)) := hg; simp [World.shape?, hg']) l h0 (by omega) (by unfold maxLen at hcm; omega) ?_
    intro j x hx
    exact hcell j x hx
  have mixed : Tryd.prog.follows .mixedOrders = true := by kernel_rfl
  go_enter Tryd.func46, Tryd.ntmps46
  go_wp2
  go_region_o
  all_goals (go_wp2; go_ret; exact ⟨rfl, rfl⟩)
end Go.Den
/- strconv.Itoa, strings.Builder. -/
namespace Go.Den
open Go.Proofs
set_option maxRecDepth 100000
def strconv_Itoa_v (n : Nat) (j0 : Int) : Option (ByteArray × Unit) :=
  match decide (-9223372036854775808 ≤ j0) && decide (j0 ≤ 9223372036854775807) with
  | true => some (⟨(Go.Lib.itoa j0).toArray⟩, ())
  | false => none
theorem strconv_Itoa_c (n : Nat) (j0 : Int) (y : ByteArray × Unit) (h : strconv_Itoa_v n j0 = some y) : Contract Tryd.prog 35 [AV.dv (DV.val (Value.int IntKind.i64 j0))] [] (OSh.enc (OSh.plain (.s) []) y) := by
  unfold strconv_Itoa_v at h
  split at h
  · rename_i hc
    cases h
    simp only [Bool.and_eq_true, decide_eq_true_eq] at hc
    exact itoa_contract ⟨Tryd.f35, Tryd.func35, by kernel_rfl, by decide⟩ (by kernel_rfl) (by kernel_rfl) j0 (fun w hw => Any.strconv_Itoa itoaLays j0 hc.1 hc.2 w hw)
  · cases h
theorem vt_only (t : TypeId) (h : vtOk Tryd.prog t = true) : t = 73 := only_of (fun _ => vt_lt) (by kernel_rfl) t h
theorem u8_only (t : TypeId) (h : u8Ok Tryd.prog t = true) : t = 5 := only_of (fun _ => u8_lt) (by kernel_rfl) t h
def strings_Builder_copyCheck_nilp_v (n : Nat) (b1 : Bool) (r2 : Rows) (b3 : Bool) : Option (Unit × (Unit × (Bool × Rows) × Bool × Unit) × Unit) :=
  match b1, r2 with
  | true, [] => some ((), (((), ((true, []), (b3, ()))), ()))
  | _, _ => none
theorem strings_Builder_copyCheck_nilp_c (n : Nat) (b1 : Bool) (r2 : Rows) (b3 : Bool) (y : Unit × (Unit × (Bool × Rows) × Bool × Unit) × Unit) (h : strings_Builder_copyCheck_nilp_v n b1 r2 b3 = some y) :
    Contract Tryd.prog 67 [AV.pl 1000 0] [[AV.dv (DV.val (Value.pointer none)), AV.sl b1 [Kd.i IntKind.u8] r2 (Right.tok 500002), AV.dv (DV.val (Value.bool b3))]] (OSh.enc (OSh.plain (.tup []) [[.pl 1000 0, .slt [Kd.i IntKind.u8] 1, .b]]) y) := by
  unfold strings_Builder_copyCheck_nilp_v at h
  split at h
  · cases h
    exact copyCheck_new ⟨Tryd.f67, Tryd.func67, by kernel_rfl, by decide⟩ vt_only copy_new 500002 b3
  · cases h
def strings_Builder_copyCheck_v (n : Nat) (b1 : Bool) (r2 : Rows) (b3 : Bool) : Option (Unit × (Unit × (Bool × Rows) × Bool × Unit) × Unit) := some ((), (((), ((b1, r2), (b3, ()))), ()))
theorem strings_Builder_copyCheck_c (n : Nat) (b1 : Bool) (r2 : Rows) (b3 : Bool) (y : Unit × (Unit × (Bool × Rows) × Bool × Unit) × Unit) (h : strings_Builder_copyCheck_v n b1 r2 b3 = some y) :
    Contract Tryd.prog 67 [AV.pl 1000 0] [[AV.pl 1000 0, AV.sl b1 [Kd.i IntKind.u8] r2 (Right.tok 500002), AV.dv (DV.val (Value.bool b3))]] (OSh.enc (OSh.plain (.tup []) [[.pl 1000 0, .slt [Kd.i IntKind.u8] 1, .b]]) y) := by
  cases h
  exact copyCheck_used ⟨Tryd.f67, Tryd.func67, by kernel_rfl, by decide⟩ copy_used 500002 b1 r2 b3
def strings_Builder_String_v (n : Nat) (b1 : Bool) (r2 : Rows) (b3 : Bool) : Option (ByteArray × (Unit × (Bool × Rows) × Bool × Unit) × Unit) :=
  match !r2.isEmpty && okBytes r2 with
  | true => some (bytesOf r2, (((), ((b1, r2), (b3, ()))), ()))
  | false => none
theorem strings_Builder_String_c (n : Nat) (b1 : Bool) (r2 : Rows) (b3 : Bool) (y : ByteArray × (Unit × (Bool × Rows) × Bool × Unit) × Unit) (h : strings_Builder_String_v n b1 r2 b3 = some y) :
    Contract Tryd.prog 46 [AV.pl 1000 0] [[AV.pl 1000 0, AV.sl b1 [Kd.i IntKind.u8] r2 (Right.tok 500002), AV.dv (DV.val (Value.bool b3))]] (OSh.enc (OSh.plain (.s) [[.pl 1000 0, .sl [Kd.i IntKind.u8], .b]]) y) := by
  unfold strings_Builder_String_v at h
  split at h
  · rename_i hc
    simp only [Bool.and_eq_true, Bool.not_eq_true'] at hc
    cases h
    exact string_contract ⟨Tryd.f46, Tryd.func46, by kernel_rfl, by decide⟩ u8_only string_walk 500002 b1 r2 b3 (fun h0 => by rw [h0] at hc; exact absurd hc.1 (by simp)) hc.2
  · cases h
end Go.Den
namespace Go.Den
open Go.Proofs
set_option maxRecDepth 100000
/-! show_Term: function 13 -/
def show_Term_lv : Live := []
noncomputable def show_Term_σ (n : Nat) : Spec := (inst 34 [.s] [] (OSh.plain (.b) []) (fun x e => show_variable_v n x.1) (inst 35 [.i IntKind.i64] [] (OSh.plain (.s) []) (fun x e => strconv_Itoa_v n x.1) (inst 36 [.s] [] (OSh.plain (.b) []) (fun x e => show_plain_v n x.1) (inst 37 [.s] [] (OSh.plain (.b) []) (fun x e => show_word_v n x.1) Spec.none))))
theorem show_Term_σok (n : Nat) : SpecOk Tryd.prog (show_Term_σ n) := (inst_ok (fun x e y h => show_variable_c n x.1 y h) (inst_ok (fun x e y h => strconv_Itoa_c n x.1 y h) (inst_ok (fun x e y h => show_plain_c n x.1 y h) (inst_ok (fun x e y h => show_word_c n x.1 y h) (SpecOk.none _)))))
noncomputable def show_Term_Φ (n : Nat) : Orc := with_ Tryd.prog (show_Term_σ n) [] n 0 [1000042, 1000043, 1000044, 1000045, 1000046, 1000059, 1000067]
noncomputable def show_Term_v (n : Nat) (s0 : ByteArray) (b1 : Bool) (j2 : Int) (s3 : ByteArray) : Option ((ByteArray × Int × Unit) × Unit) :=
  DM.denFn tm (show_Term_Φ n) show_Term_lv n Tryd.f13 false [AV.agg [AV.dv (DV.val (Value.string s0)), AV.dv (DV.val (Value.bool b1)), AV.dv (DV.val (Value.int IntKind.i64 j2)), AV.dv (DV.val (Value.string s3))]] [] (OSh.chk (OSh.plain (.tup [.s, .i IntKind.i64]) []))
theorem show_Term_e (n : Nat) (s0 : ByteArray) (b1 : Bool) (j2 : Int) (s3 : ByteArray) : show_Term_v n s0 b1 j2 s3 =
  bif !s0 == ByteArray.mk #[] then
    bif !(b1 == false && (j2 == 0 && (s3 == ByteArray.mk #[] && true))) then
      some ((ByteArray.mk #[], (100, ())), ())
    else obind (show_variable_v n s0) fun y4 =>
    bif !y4.fst then
      some ((ByteArray.mk #[], (100, ())), ())
    else some ((s0, (0, ())), ())
  else bif b1 then
    bif s3 == ByteArray.mk #[] then
      obind (strconv_Itoa_v n j2) fun y5 =>
      some ((y5.fst, (0, ())), ())
    else bif b1 then
      some ((ByteArray.mk #[], (100, ())), ())
    else bif j2 != 0 then
      some ((ByteArray.mk #[], (100, ())), ())
    else obind (show_plain_v n s3) fun y6 =>
    bif !y6.fst then
      some ((ByteArray.mk #[], (100, ())), ())
    else obind (show_word_v n s3) fun y7 =>
    bif y7.fst then
      some ((s3, (0, ())), ())
    else if 1 + ByteArray.size s3 < 4611686018427387904 then
      if ByteArray.size (ByteArray.mk #[34] ++ s3) + 1 < 4611686018427387904 then
        some ((ByteArray.mk #[34] ++ s3 ++ ByteArray.mk #[34], (0, ())), ())
      else none
    else none
  else bif b1 then
    some ((ByteArray.mk #[], (100, ())), ())
  else bif j2 != 0 then
    some ((ByteArray.mk #[], (100, ())), ())
  else obind (show_plain_v n s3) fun y8 =>
  bif !y8.fst then
    some ((ByteArray.mk #[], (100, ())), ())
  else obind (show_word_v n s3) fun y9 =>
  bif y9.fst then
    some ((s3, (0, ())), ())
  else if 1 + ByteArray.size s3 < 4611686018427387904 then
    if ByteArray.size (ByteArray.mk #[34] ++ s3) + 1 < 4611686018427387904 then
      some ((ByteArray.mk #[34] ++ s3 ++ ByteArray.mk #[34], (0, ())), ())
    else none
  else none := by kernel_rfl
theorem show_Term_c (n : Nat) (s0 : ByteArray) (b1 : Bool) (j2 : Int) (s3 : ByteArray) (y : (ByteArray × Int × Unit) × Unit) (h : show_Term_v n s0 b1 j2 s3 = some y) : Contract Tryd.prog 13 [AV.agg [AV.dv (DV.val (Value.string s0)), AV.dv (DV.val (Value.bool b1)), AV.dv (DV.val (Value.int IntKind.i64 j2)), AV.dv (DV.val (Value.string s3))]] [] (OSh.enc (OSh.plain (.tup [.s, .i IntKind.i64]) []) y) :=
  auto_okM tm_std (with_ok mixed (by kernel_rfl) (show_Term_σok n) n 0 [1000042, 1000043, 1000044, 1000045, 1000046, 1000059, 1000067]) (with_pick mixed (by kernel_rfl) (show_Term_σok n) n 0 [1000042, 1000043, 1000044, 1000045, 1000046, 1000059, 1000067]) mixed Tryd.func13 (by decide) (o := (OSh.plain (.tup [.s, .i IntKind.i64]) [])) h
/-! law09_live: function 12 -/
def law09_live_lv : Live := []
noncomputable def law09_live_σ (n : Nat) : Spec := (inst 13 [.agg [.s, .b, .i IntKind.i64, .s]] [] (OSh.plain (.tup [.s, .i IntKind.i64]) []) (fun x e => show_Term_v n x.1.1 x.1.2.1 x.1.2.2.1 x.1.2.2.2.1) Spec.none)
theorem law09_live_σok (n : Nat) : SpecOk Tryd.prog (law09_live_σ n) := (inst_ok (fun x e y h => show_Term_c n x.1.1 x.1.2.1 x.1.2.2.1 x.1.2.2.2.1 y h) (SpecOk.none _))
noncomputable def law09_live_Φ (n : Nat) : Orc := with_ Tryd.prog (law09_live_σ n) [] n 0 [1000042, 1000043, 1000044, 1000045, 1000046, 1000059, 1000067]
noncomputable def law09_live_v (n : Nat) : Option (Bool × Unit) :=
  DM.denFn tm (law09_live_Φ n) law09_live_lv n Tryd.f12 false [] [] (OSh.chk (OSh.plain (.b) []))
theorem law09_live_e (n : Nat) : law09_live_v n =
  obind (show_Term_v n (ByteArray.mk #[]) false 0 (ByteArray.mk #[84, 111])) fun y0 =>
  obind (show_Term_v n (ByteArray.mk #[]) false 0 (ByteArray.mk #[98])) fun y1 =>
  obind (show_Term_v n (ByteArray.mk #[]) false 0 (ByteArray.mk #[])) fun y2 =>
  bif y0.fst.fst == ByteArray.mk #[34, 84, 111, 34] then
    bif y0.fst.snd.fst == 0 then
      bif y1.fst.fst == ByteArray.mk #[98] then
        bif y1.fst.snd.fst == 0 then
          some (y2.fst.snd.fst == 100, ())
        else some (false, ())
      else some (false, ())
    else some (false, ())
  else some (false, ()) := by kernel_rfl
theorem law09_live_c (n : Nat) (y : Bool × Unit) (h : law09_live_v n = some y) : Contract Tryd.prog 12 [] [] (OSh.enc (OSh.plain (.b) []) y) :=
  auto_okM tm_std (with_ok mixed (by kernel_rfl) (law09_live_σok n) n 0 [1000042, 1000043, 1000044, 1000045, 1000046, 1000059, 1000067]) (with_pick mixed (by kernel_rfl) (law09_live_σok n) n 0 [1000042, 1000043, 1000044, 1000045, 1000046, 1000059, 1000067]) mixed Tryd.func12 (by decide) (o := (OSh.plain (.b) [])) h
/-! ref05_Copy: function 19 -/
def ref05_Copy_lv : Live := [(3, [0, 3, 4], [1000, 1001, 1002, 1003]), (9, [0, 3, 4, 5, 6], [25, 5, 1000, 1001, 1002, 1003]), (1000012, [1, 29], [])]
noncomputable def ref05_Copy_σ (n : Nat) : Spec := Spec.none
theorem ref05_Copy_σok (n : Nat) : SpecOk Tryd.prog (ref05_Copy_σ n) := (SpecOk.none _)
noncomputable def ref05_Copy_Φ (n : Nat) : Orc := with_ Tryd.prog (ref05_Copy_σ n) [] n 0 [22, 1000042, 1000043, 1000044, 1000045, 1000046, 1000059, 1000067]
noncomputable def ref05_Copy_v (n : Nat) (b0 : Bool) (r1 : Rows) : Option ((Bool × Rows) × Unit) :=
  DM.denFn tm (ref05_Copy_Φ n) ref05_Copy_lv n Tryd.f19 true [AV.sl b0 [Kd.s, Kd.b, Kd.i IntKind.i64, Kd.s, Kd.s, Kd.sl [Kd.s, Kd.b, Kd.i IntKind.i64, Kd.s], Kd.s, Kd.b, Kd.i IntKind.i64, Kd.s, Kd.sl [Kd.s, Kd.b, Kd.i IntKind.i64, Kd.s, Kd.s, Kd.sl [Kd.s, Kd.b, Kd.i IntKind.i64, Kd.s], Kd.s, Kd.b, Kd.i IntKind.i64, Kd.s]] r1 Right.no] [] (OSh.chk (OSh.plain (.slt [Kd.s, Kd.b, Kd.i IntKind.i64, Kd.s, Kd.s, Kd.sl [Kd.s, Kd.b, Kd.i IntKind.i64, Kd.s], Kd.s, Kd.b, Kd.i IntKind.i64, Kd.s, Kd.sl [Kd.s, Kd.b, Kd.i IntKind.i64, Kd.s, Kd.s, Kd.sl [Kd.s, Kd.b, Kd.i IntKind.i64, Kd.s], Kd.s, Kd.b, Kd.i IntKind.i64, Kd.s]] 0) []))
noncomputable def ref05_Copy_l3 (n : Nat) (b0 : Bool) (r1 : Rows) (i0 : Nat) (b4 : Bool) (r5 : List (List DV)) (j6 : Int) : Option ((Bool × Rows) × Unit) :=
  DM.loopFn tm (ref05_Copy_Φ n) ref05_Copy_lv n Tryd.f19 true [] (OSh.chk (OSh.plain (.slt [Kd.s, Kd.b, Kd.i IntKind.i64, Kd.s, Kd.s, Kd.sl [Kd.s, Kd.b, Kd.i IntKind.i64, Kd.s], Kd.s, Kd.b, Kd.i IntKind.i64, Kd.s, Kd.sl [Kd.s, Kd.b, Kd.i IntKind.i64, Kd.s, Kd.s, Kd.sl [Kd.s, Kd.b, Kd.i IntKind.i64, Kd.s], Kd.s, Kd.b, Kd.i IntKind.i64, Kd.s]] 0) [])) 3 [] i0 (St.mk [AV.sl b0 [Kd.s, Kd.b, Kd.i IntKind.i64, Kd.s, Kd.s, Kd.sl [Kd.s, Kd.b, Kd.i IntKind.i64, Kd.s], Kd.s, Kd.b, Kd.i IntKind.i64, Kd.s, Kd.sl [Kd.s, Kd.b, Kd.i IntKind.i64, Kd.s, Kd.s, Kd.sl [Kd.s, Kd.b, Kd.i IntKind.i64, Kd.s], Kd.s, Kd.b, Kd.i IntKind.i64, Kd.s]] r1 Right.no, AV.junk, AV.junk, AV.sl b4 [Kd.s, Kd.b, Kd.i IntKind.i64, Kd.s, Kd.s, Kd.sl [Kd.s, Kd.b, Kd.i IntKind.i64, Kd.s], Kd.s, Kd.b, Kd.i IntKind.i64, Kd.s, Kd.sl [Kd.s, Kd.b, Kd.i IntKind.i64, Kd.s, Kd.s, Kd.sl [Kd.s, Kd.b, Kd.i IntKind.i64, Kd.s], Kd.s, Kd.b, Kd.i IntKind.i64, Kd.s]] r5 (Right.tok 3), AV.dv (DV.val (Value.int IntKind.i64 j6)), AV.junk, AV.junk, AV.junk, AV.junk, AV.junk, AV.junk, AV.junk, AV.junk, AV.junk, AV.junk, AV.junk, AV.junk, AV.junk, AV.junk, AV.junk, AV.junk, AV.junk, AV.junk, AV.junk, AV.junk, AV.junk, AV.junk, AV.junk, AV.junk, AV.junk, AV.junk, AV.junk, AV.junk, AV.junk, AV.junk, AV.junk, AV.junk, AV.junk, AV.junk, AV.junk, AV.junk, AV.junk, AV.junk, AV.junk, AV.junk, AV.junk, AV.junk, AV.junk, AV.junk, AV.junk, AV.junk, AV.junk] [])
noncomputable def ref05_Copy_l9 (n : Nat) (b0 : Bool) (r1 : Rows) (i0 i1 : Nat) (j2 : Int) (r3 : List (List DV)) (b7 : Bool) (r8 : List (List DV)) (j9 : Int) (s10 : ByteArray) (b11 : Bool) (j12 : Int) (s13 : ByteArray) (s14 : ByteArray) (b15 : Bool) (r16 : List (List DV)) (s17 : ByteArray) (b18 : Bool) (j19 : Int) (s20 : ByteArray) (m21 : Nat) (m22 : Nat) : Option ((Bool × Rows) × Unit) :=
  DM.loopFn tm (ref05_Copy_Φ n) ref05_Copy_lv n Tryd.f19 true [] (OSh.chk (OSh.plain (.slt [Kd.s, Kd.b, Kd.i IntKind.i64, Kd.s, Kd.s, Kd.sl [Kd.s, Kd.b, Kd.i IntKind.i64, Kd.s], Kd.s, Kd.b, Kd.i IntKind.i64, Kd.s, Kd.sl [Kd.s, Kd.b, Kd.i IntKind.i64, Kd.s, Kd.s, Kd.sl [Kd.s, Kd.b, Kd.i IntKind.i64, Kd.s], Kd.s, Kd.b, Kd.i IntKind.i64, Kd.s]] 0) [])) 9 [i0] i1 (St.mk [AV.sl b0 [Kd.s, Kd.b, Kd.i IntKind.i64, Kd.s, Kd.s, Kd.sl [Kd.s, Kd.b, Kd.i IntKind.i64, Kd.s], Kd.s, Kd.b, Kd.i IntKind.i64, Kd.s, Kd.sl [Kd.s, Kd.b, Kd.i IntKind.i64, Kd.s, Kd.s, Kd.sl [Kd.s, Kd.b, Kd.i IntKind.i64, Kd.s], Kd.s, Kd.b, Kd.i IntKind.i64, Kd.s]] r1 Right.no, AV.junk, AV.junk, AV.sl b7 [Kd.s, Kd.b, Kd.i IntKind.i64, Kd.s, Kd.s, Kd.sl [Kd.s, Kd.b, Kd.i IntKind.i64, Kd.s], Kd.s, Kd.b, Kd.i IntKind.i64, Kd.s, Kd.sl [Kd.s, Kd.b, Kd.i IntKind.i64, Kd.s, Kd.s, Kd.sl [Kd.s, Kd.b, Kd.i IntKind.i64, Kd.s], Kd.s, Kd.b, Kd.i IntKind.i64, Kd.s]] r8 (Right.tok 3), AV.dv (DV.val (Value.int IntKind.i64 j9)), AV.pl 5 0, AV.dv (DV.val (Value.int IntKind.i64 j2)), AV.junk, AV.junk, AV.junk, AV.junk, AV.junk, AV.junk, AV.junk, AV.junk, AV.junk, AV.junk, AV.junk, AV.junk, AV.junk, AV.junk, AV.junk, AV.junk, AV.junk, AV.junk, AV.junk, AV.junk, AV.junk, AV.junk, AV.junk, AV.junk, AV.junk, AV.junk, AV.junk, AV.junk, AV.junk, AV.junk, AV.junk, AV.junk, AV.junk, AV.junk, AV.junk, AV.junk, AV.junk, AV.junk, AV.junk, AV.junk, AV.junk, AV.junk, AV.junk, AV.junk, AV.junk] [(5, [AV.dv (DV.val (Value.string s10)), AV.dv (DV.val (Value.bool b11)), AV.dv (DV.val (Value.int IntKind.i64 j12)), AV.dv (DV.val (Value.string s13)), AV.dv (DV.val (Value.string s14)), AV.sl b15 [Kd.s, Kd.b, Kd.i IntKind.i64, Kd.s] r16 (Right.tok 20325), AV.dv (DV.val (Value.string s17)), AV.dv (DV.val (Value.bool b18)), AV.dv (DV.val (Value.int IntKind.i64 j19)), AV.dv (DV.val (Value.string s20)), AV.ms 25 [Kd.s, Kd.b, Kd.i IntKind.i64, Kd.s, Kd.s, Kd.sl [Kd.s, Kd.b, Kd.i IntKind.i64, Kd.s], Kd.s, Kd.b, Kd.i IntKind.i64, Kd.s] 0 m21 m22]), (25, [AV.arr [Kd.s, Kd.b, Kd.i IntKind.i64, Kd.s, Kd.s, Kd.sl [Kd.s, Kd.b, Kd.i IntKind.i64, Kd.s], Kd.s, Kd.b, Kd.i IntKind.i64, Kd.s] r3])])
theorem ref05_Copy_s3 (n : Nat) (b0 : Bool) (r1 : Rows) (i0 : Nat) (b4 : Bool) (r5 : List (List DV)) (j6 : Int) : ref05_Copy_l3 n b0 r1 (i0 + 1) b4 r5 j6 =
  bif decide (j6 < (↑(List.length r1) : Int)) then
    if 0 ≤ j6 then
      if j6 < (↑(List.length r1) : Int) then
        if (0 + List.length (Row.R (List.getD r1 (Int.toNat j6) []) 5)) * 48 ≤ 140737488355328 then
          if List.length (Row.R (List.getD r1 (Int.toNat j6) []) 10) * 136 ≤ 140737488355328 then
            ref05_Copy_l9 n b0 r1 i0 n 0 (Row.R (List.getD r1 (Int.toNat j6) []) 10) b4 r5 j6 (Row.S (List.getD r1 (Int.toNat j6) []) 0) (Row.B (List.getD r1 (Int.toNat j6) []) 1) (Row.I (List.getD r1 (Int.toNat j6) []) 2) (Row.S (List.getD r1 (Int.toNat j6) []) 3) (Row.S (List.getD r1 (Int.toNat j6) []) 4) (false && List.isEmpty (Row.R (List.getD r1 (Int.toNat j6) []) 5)) (appX [] (Row.R (List.getD r1 (Int.toNat j6) []) 5)) (Row.S (List.getD r1 (Int.toNat j6) []) 6) (Row.B (List.getD r1 (Int.toNat j6) []) 7) (Row.I (List.getD r1 (Int.toNat j6) []) 8) (Row.S (List.getD r1 (Int.toNat j6) []) 9) (List.length (Row.R (List.getD r1 (Int.toNat j6) []) 10)) (List.length (Row.R (List.getD r1 (Int.toNat j6) []) 10))
          else none
        else none
      else none
    else none
  else some ((b4, r5), ()) := by kernel_rfl
theorem ref05_Copy_s9 (n : Nat) (b0 : Bool) (r1 : Rows) (i0 i1 : Nat) (j2 : Int) (r3 : List (List DV)) (b7 : Bool) (r8 : List (List DV)) (j9 : Int) (s10 : ByteArray) (b11 : Bool) (j12 : Int) (s13 : ByteArray) (s14 : ByteArray) (b15 : Bool) (r16 : List (List DV)) (s17 : ByteArray) (b18 : Bool) (j19 : Int) (s20 : ByteArray) (m21 : Nat) (m22 : Nat) : ref05_Copy_l9 n b0 r1 i0 (i1 + 1) j2 r3 b7 r8 j9 s10 b11 j12 s13 s14 b15 r16 s17 b18 j19 s20 m21 m22 =
  bif decide (j2 < (↑m21 : Int)) then
    if 0 ≤ j2 then
      if j2 < (↑m21 : Int) then
        if 0 + Int.toNat j2 < List.length r3 then
          if (0 + List.length (Row.R (List.getD r3 (0 + Int.toNat j2) []) 5)) * 48 ≤ 140737488355328 then
            if 0 ≤ j2 then
              if j2 < (↑m21 : Int) then
                if 0 + Int.toNat j2 < List.length r3 then
                  ref05_Copy_l9 n b0 r1 i0 i1 (IntKind.wrap IntKind.i64 (j2 + 1)) (List.set r3 (0 + Int.toNat j2) (spliceD (List.getD r3 (0 + Int.toNat j2) []) 5 [DV.sl (false && List.isEmpty (Row.R (List.getD r3 (0 + Int.toNat j2) []) 5)) [Kd.s, Kd.b, Kd.i IntKind.i64, Kd.s] (appX [] (Row.R (List.getD r3 (0 + Int.toNat j2) []) 5))])) b7 r8 j9 s10 b11 j12 s13 s14 b15 r16 s17 b18 j19 s20 m21 m22
                else none
              else none
            else none
          else none
        else none
      else none
    else none
  else if 0 + m21 ≤ List.length r3 then
    bif Kd.sameL [Kd.s, Kd.b, Kd.i IntKind.i64, Kd.s, Kd.s, Kd.sl [Kd.s, Kd.b, Kd.i IntKind.i64, Kd.s], Kd.s, Kd.b, Kd.i IntKind.i64, Kd.s] [Kd.s, Kd.b, Kd.i IntKind.i64, Kd.s, Kd.s, Kd.sl [Kd.s, Kd.b, Kd.i IntKind.i64, Kd.s], Kd.s, Kd.b, Kd.i IntKind.i64, Kd.s] && Nat.ble (0 + m21) (0 + m21) then
      if (List.length r8 + List.length [[DV.val (Value.string s10), DV.val (Value.bool b11), DV.val (Value.int IntKind.i64 j12), DV.val (Value.string s13), DV.val (Value.string s14), DV.sl b15 [Kd.s, Kd.b, Kd.i IntKind.i64, Kd.s] r16, DV.val (Value.string s17), DV.val (Value.bool b18), DV.val (Value.int IntKind.i64 j19), DV.val (Value.string s20), DV.sl false [Kd.s, Kd.b, Kd.i IntKind.i64, Kd.s, Kd.s, Kd.sl [Kd.s, Kd.b, Kd.i IntKind.i64, Kd.s], Kd.s, Kd.b, Kd.i IntKind.i64, Kd.s] (List.take m21 (List.drop 0 r3))]]) * 160 ≤ 140737488355328 then
        ref05_Copy_l3 n b0 r1 i0 (b7 && List.isEmpty [[DV.val (Value.string s10), DV.val (Value.bool b11), DV.val (Value.int IntKind.i64 j12), DV.val (Value.string s13), DV.val (Value.string s14), DV.sl b15 [Kd.s, Kd.b, Kd.i IntKind.i64, Kd.s] r16, DV.val (Value.string s17), DV.val (Value.bool b18), DV.val (Value.int IntKind.i64 j19), DV.val (Value.string s20), DV.sl false [Kd.s, Kd.b, Kd.i IntKind.i64, Kd.s, Kd.s, Kd.sl [Kd.s, Kd.b, Kd.i IntKind.i64, Kd.s], Kd.s, Kd.b, Kd.i IntKind.i64, Kd.s] (List.take m21 (List.drop 0 r3))]]) (appX r8 [[DV.val (Value.string s10), DV.val (Value.bool b11), DV.val (Value.int IntKind.i64 j12), DV.val (Value.string s13), DV.val (Value.string s14), DV.sl b15 [Kd.s, Kd.b, Kd.i IntKind.i64, Kd.s] r16, DV.val (Value.string s17), DV.val (Value.bool b18), DV.val (Value.int IntKind.i64 j19), DV.val (Value.string s20), DV.sl false [Kd.s, Kd.b, Kd.i IntKind.i64, Kd.s, Kd.s, Kd.sl [Kd.s, Kd.b, Kd.i IntKind.i64, Kd.s], Kd.s, Kd.b, Kd.i IntKind.i64, Kd.s] (List.take m21 (List.drop 0 r3))]]) (IntKind.wrap IntKind.i64 (j9 + 1))
      else none
    else none
  else none := by kernel_rfl
theorem ref05_Copy_e (n : Nat) (b0 : Bool) (r1 : Rows) : ref05_Copy_v n b0 r1 =
  ref05_Copy_l3 n b0 r1 n true [] 0 := by kernel_rfl
theorem ref05_Copy_c (n : Nat) (b0 : Bool) (r1 : Rows) (y : (Bool × Rows) × Unit) (h : ref05_Copy_v n b0 r1 = some y) : Contract Tryd.prog 19 [AV.sl b0 [Kd.s, Kd.b, Kd.i IntKind.i64, Kd.s, Kd.s, Kd.sl [Kd.s, Kd.b, Kd.i IntKind.i64, Kd.s], Kd.s, Kd.b, Kd.i IntKind.i64, Kd.s, Kd.sl [Kd.s, Kd.b, Kd.i IntKind.i64, Kd.s, Kd.s, Kd.sl [Kd.s, Kd.b, Kd.i IntKind.i64, Kd.s], Kd.s, Kd.b, Kd.i IntKind.i64, Kd.s]] r1 Right.no] [] (OSh.enc (OSh.plain (.slt [Kd.s, Kd.b, Kd.i IntKind.i64, Kd.s, Kd.s, Kd.sl [Kd.s, Kd.b, Kd.i IntKind.i64, Kd.s], Kd.s, Kd.b, Kd.i IntKind.i64, Kd.s, Kd.sl [Kd.s, Kd.b, Kd.i IntKind.i64, Kd.s, Kd.s, Kd.sl [Kd.s, Kd.b, Kd.i IntKind.i64, Kd.s], Kd.s, Kd.b, Kd.i IntKind.i64, Kd.s]] 0) []) y) :=
  auto_okM tm_std (with_ok mixed (by kernel_rfl) (ref05_Copy_σok n) n 0 [22, 1000042, 1000043, 1000044, 1000045, 1000046, 1000059, 1000067]) (with_pick mixed (by kernel_rfl) (ref05_Copy_σok n) n 0 [22, 1000042, 1000043, 1000044, 1000045, 1000046, 1000059, 1000067]) mixed Tryd.func19 (by decide) (o := (OSh.plain (.slt [Kd.s, Kd.b, Kd.i IntKind.i64, Kd.s, Kd.s, Kd.sl [Kd.s, Kd.b, Kd.i IntKind.i64, Kd.s], Kd.s, Kd.b, Kd.i IntKind.i64, Kd.s, Kd.sl [Kd.s, Kd.b, Kd.i IntKind.i64, Kd.s, Kd.s, Kd.sl [Kd.s, Kd.b, Kd.i IntKind.i64, Kd.s], Kd.s, Kd.b, Kd.i IntKind.i64, Kd.s]] 0) [])) h
/-! strings_Builder_WriteString: function 43 -/
def strings_Builder_WriteString_nilp_lv : Live := []
noncomputable def strings_Builder_WriteString_nilp_σ (n : Nat) : Spec := (inst 67 [.pl 1000 0] [[.nilp, .slt [Kd.i IntKind.u8] 500002, .b]] (OSh.plain (.tup []) [[.pl 1000 0, .slt [Kd.i IntKind.u8] 1, .b]]) (fun x e => strings_Builder_copyCheck_nilp_v n e.1.2.1.1 e.1.2.1.2 e.1.2.2.1) Spec.none)
theorem strings_Builder_WriteString_nilp_σok (n : Nat) : SpecOk Tryd.prog (strings_Builder_WriteString_nilp_σ n) := (inst_ok (fun x e y h => strings_Builder_copyCheck_nilp_c n e.1.2.1.1 e.1.2.1.2 e.1.2.2.1 y h) (SpecOk.none _))
noncomputable def strings_Builder_WriteString_nilp_Φ (n : Nat) : Orc := with_ Tryd.prog (strings_Builder_WriteString_nilp_σ n) [] n 0 [1000042, 1000043, 1000044, 1000045, 1000046, 1000059, 1000067]
noncomputable def strings_Builder_WriteString_nilp_v (n : Nat) (s0 : ByteArray) (b1 : Bool) (r2 : Rows) (b3 : Bool) : Option ((Int × Unit × Unit) × (Unit × (Bool × Rows) × Bool × Unit) × Unit) :=
  DM.denFn tm (strings_Builder_WriteString_nilp_Φ n) strings_Builder_WriteString_nilp_lv n Tryd.f43 false [AV.pl 1000 0, AV.dv (DV.val (Value.string s0))] [[AV.dv (DV.val (Value.pointer none)), AV.sl b1 [Kd.i IntKind.u8] r2 (Right.tok 500003), AV.dv (DV.val (Value.bool b3))]] (OSh.chk (OSh.plain (.tup [.i IntKind.i64, .nili]) [[.pl 1000 0, .slt [Kd.i IntKind.u8] 1, .b]]))
theorem strings_Builder_WriteString_nilp_e (n : Nat) (s0 : ByteArray) (b1 : Bool) (r2 : Rows) (b3 : Bool) : strings_Builder_WriteString_nilp_v n s0 b1 r2 b3 =
  obind (strings_Builder_copyCheck_nilp_v n b1 r2 b3) fun y4 =>
  if (List.length y4.snd.fst.snd.fst.snd + ByteArray.size s0) * 1 ≤ 140737488355328 then
    some (((↑(ByteArray.size s0) : Int), ((), ())), (((), ((y4.snd.fst.snd.fst.fst && ByteArray.size s0 == 0, appX y4.snd.fst.snd.fst.snd (byteRows s0)), (y4.snd.fst.snd.snd.fst, ()))), ()))
  else none := by kernel_rfl
theorem strings_Builder_WriteString_nilp_c (n : Nat) (s0 : ByteArray) (b1 : Bool) (r2 : Rows) (b3 : Bool) (y : (Int × Unit × Unit) × (Unit × (Bool × Rows) × Bool × Unit) × Unit) (h : strings_Builder_WriteString_nilp_v n s0 b1 r2 b3 = some y) : Contract Tryd.prog 43 [AV.pl 1000 0, AV.dv (DV.val (Value.string s0))] [[AV.dv (DV.val (Value.pointer none)), AV.sl b1 [Kd.i IntKind.u8] r2 (Right.tok 500003), AV.dv (DV.val (Value.bool b3))]] (OSh.enc (OSh.plain (.tup [.i IntKind.i64, .nili]) [[.pl 1000 0, .slt [Kd.i IntKind.u8] 1, .b]]) y) :=
  auto_okM tm_std (with_ok mixed (by kernel_rfl) (strings_Builder_WriteString_nilp_σok n) n 0 [1000042, 1000043, 1000044, 1000045, 1000046, 1000059, 1000067]) (with_pick mixed (by kernel_rfl) (strings_Builder_WriteString_nilp_σok n) n 0 [1000042, 1000043, 1000044, 1000045, 1000046, 1000059, 1000067]) mixed Tryd.func43 (by decide) (o := (OSh.plain (.tup [.i IntKind.i64, .nili]) [[.pl 1000 0, .slt [Kd.i IntKind.u8] 1, .b]])) h
/-! show_printer_term: function 42 -/
def show_printer_term_nilp_lv : Live := []
noncomputable def show_printer_term_nilp_σ (n : Nat) : Spec := (inst 13 [.agg [.s, .b, .i IntKind.i64, .s]] [] (OSh.plain (.tup [.s, .i IntKind.i64]) []) (fun x e => show_Term_v n x.1.1 x.1.2.1 x.1.2.2.1 x.1.2.2.2.1) (inst 43 [.pl 1000 0, .s] [[.nilp, .slt [Kd.i IntKind.u8] 500003, .b]] (OSh.plain (.tup [.i IntKind.i64, .nili]) [[.pl 1000 0, .slt [Kd.i IntKind.u8] 1, .b]]) (fun x e => strings_Builder_WriteString_nilp_v n x.2.1 e.1.2.1.1 e.1.2.1.2 e.1.2.2.1) Spec.none))
theorem show_printer_term_nilp_σok (n : Nat) : SpecOk Tryd.prog (show_printer_term_nilp_σ n) := (inst_ok (fun x e y h => show_Term_c n x.1.1 x.1.2.1 x.1.2.2.1 x.1.2.2.2.1 y h) (inst_ok (fun x e y h => strings_Builder_WriteString_nilp_c n x.2.1 e.1.2.1.1 e.1.2.1.2 e.1.2.2.1 y h) (SpecOk.none _)))
noncomputable def show_printer_term_nilp_Φ (n : Nat) : Orc := with_ Tryd.prog (show_printer_term_nilp_σ n) [] n 0 [1000042, 1000043, 1000044, 1000045, 1000046, 1000059, 1000067]
noncomputable def show_printer_term_nilp_v (n : Nat) (s0 : ByteArray) (s1 : ByteArray) (b2 : Bool) (j3 : Int) (s4 : ByteArray) (b5 : Bool) (r6 : Rows) (b7 : Bool) : Option (Unit × (Unit × (Bool × Rows) × Bool × Unit) × Unit) :=
  DM.denFn tm (show_printer_term_nilp_Φ n) show_printer_term_nilp_lv n Tryd.f42 false [AV.pl 1000 0, AV.dv (DV.val (Value.string s0)), AV.agg [AV.dv (DV.val (Value.string s1)), AV.dv (DV.val (Value.bool b2)), AV.dv (DV.val (Value.int IntKind.i64 j3)), AV.dv (DV.val (Value.string s4))]] [[AV.dv (DV.val (Value.pointer none)), AV.sl b5 [Kd.i IntKind.u8] r6 (Right.tok 500004), AV.dv (DV.val (Value.bool b7))]] (OSh.chk (OSh.plain (.tup []) [[.pl 1000 0, .slt [Kd.i IntKind.u8] 1, .b]]))
theorem show_printer_term_nilp_e (n : Nat) (s0 : ByteArray) (s1 : ByteArray) (b2 : Bool) (j3 : Int) (s4 : ByteArray) (b5 : Bool) (r6 : Rows) (b7 : Bool) : show_printer_term_nilp_v n s0 s1 b2 j3 s4 b5 r6 b7 =
  obind (show_Term_v n s1 b2 j3 s4) fun y8 =>
  bif b7 then
    if (Nat.beq 1 1 && Nat.ble 3 (List.length [AV.dv (DV.val (Value.pointer none)), AV.sl b5 [Kd.i IntKind.u8] r6 (Right.tok 500004), AV.dv (DV.val (Value.bool b7))]) && AV.areCells [AV.dv (DV.val (Value.bool true))] && virLe [AV.dv (DV.val (Value.pointer none)), AV.sl b5 [Kd.i IntKind.u8] r6 (Right.tok 500004), AV.dv (DV.val (Value.bool true))] [AV.dv (DV.val (Value.pointer none)), AV.sl b5 [Kd.i IntKind.u8] r6 (Right.tok 500004), AV.dv (DV.val (Value.bool b7))]) = true then
      if ByteArray.size s0 + ByteArray.size y8.fst.fst < 4611686018427387904 then
        obind (strings_Builder_WriteString_nilp_v n (s0 ++ y8.fst.fst) b5 r6 true) fun y9 =>
        some ((), (((), ((y9.snd.fst.snd.fst.fst, y9.snd.fst.snd.fst.snd), (y9.snd.fst.snd.snd.fst, ()))), ()))
      else none
    else none
  else if (Nat.beq (List.length [AV.dv (DV.val (Value.bool (y8.fst.snd.fst != 0)))]) 1 && Nat.ble 3 (List.length [AV.dv (DV.val (Value.pointer none)), AV.sl b5 [Kd.i IntKind.u8] r6 (Right.tok 500004), AV.dv (DV.val (Value.bool b7))]) && AV.areCells [AV.dv (DV.val (Value.bool (y8.fst.snd.fst != 0)))] && virLe [AV.dv (DV.val (Value.pointer none)), AV.sl b5 [Kd.i IntKind.u8] r6 (Right.tok 500004), AV.dv (DV.val (Value.bool (y8.fst.snd.fst != 0)))] [AV.dv (DV.val (Value.pointer none)), AV.sl b5 [Kd.i IntKind.u8] r6 (Right.tok 500004), AV.dv (DV.val (Value.bool b7))]) = true then
    if ByteArray.size s0 + ByteArray.size y8.fst.fst < 4611686018427387904 then
      obind (strings_Builder_WriteString_nilp_v n (s0 ++ y8.fst.fst) b5 r6 (y8.fst.snd.fst != 0)) fun y10 =>
      some ((), (((), ((y10.snd.fst.snd.fst.fst, y10.snd.fst.snd.fst.snd), (y10.snd.fst.snd.snd.fst, ()))), ()))
    else none
  else none := by kernel_rfl
theorem show_printer_term_nilp_c (n : Nat) (s0 : ByteArray) (s1 : ByteArray) (b2 : Bool) (j3 : Int) (s4 : ByteArray) (b5 : Bool) (r6 : Rows) (b7 : Bool) (y : Unit × (Unit × (Bool × Rows) × Bool × Unit) × Unit) (h : show_printer_term_nilp_v n s0 s1 b2 j3 s4 b5 r6 b7 = some y) : Contract Tryd.prog 42 [AV.pl 1000 0, AV.dv (DV.val (Value.string s0)), AV.agg [AV.dv (DV.val (Value.string s1)), AV.dv (DV.val (Value.bool b2)), AV.dv (DV.val (Value.int IntKind.i64 j3)), AV.dv (DV.val (Value.string s4))]] [[AV.dv (DV.val (Value.pointer none)), AV.sl b5 [Kd.i IntKind.u8] r6 (Right.tok 500004), AV.dv (DV.val (Value.bool b7))]] (OSh.enc (OSh.plain (.tup []) [[.pl 1000 0, .slt [Kd.i IntKind.u8] 1, .b]]) y) :=
  auto_okM tm_std (with_ok mixed (by kernel_rfl) (show_printer_term_nilp_σok n) n 0 [1000042, 1000043, 1000044, 1000045, 1000046, 1000059, 1000067]) (with_pick mixed (by kernel_rfl) (show_printer_term_nilp_σok n) n 0 [1000042, 1000043, 1000044, 1000045, 1000046, 1000059, 1000067]) mixed Tryd.func42 (by decide) (o := (OSh.plain (.tup []) [[.pl 1000 0, .slt [Kd.i IntKind.u8] 1, .b]])) h
/-! strings_Builder_WriteString: function 43 -/
def strings_Builder_WriteString_lv : Live := []
noncomputable def strings_Builder_WriteString_σ (n : Nat) : Spec := (inst 67 [.pl 1000 0] [[.pl 1000 0, .slt [Kd.i IntKind.u8] 500002, .b]] (OSh.plain (.tup []) [[.pl 1000 0, .slt [Kd.i IntKind.u8] 1, .b]]) (fun x e => strings_Builder_copyCheck_v n e.1.2.1.1 e.1.2.1.2 e.1.2.2.1) Spec.none)
theorem strings_Builder_WriteString_σok (n : Nat) : SpecOk Tryd.prog (strings_Builder_WriteString_σ n) := (inst_ok (fun x e y h => strings_Builder_copyCheck_c n e.1.2.1.1 e.1.2.1.2 e.1.2.2.1 y h) (SpecOk.none _))
noncomputable def strings_Builder_WriteString_Φ (n : Nat) : Orc := with_ Tryd.prog (strings_Builder_WriteString_σ n) [] n 0 [1000042, 1000043, 1000044, 1000045, 1000046, 1000059, 1000067]
noncomputable def strings_Builder_WriteString_v (n : Nat) (s0 : ByteArray) (b1 : Bool) (r2 : Rows) (b3 : Bool) : Option ((Int × Unit × Unit) × (Unit × (Bool × Rows) × Bool × Unit) × Unit) :=
  DM.denFn tm (strings_Builder_WriteString_Φ n) strings_Builder_WriteString_lv n Tryd.f43 false [AV.pl 1000 0, AV.dv (DV.val (Value.string s0))] [[AV.pl 1000 0, AV.sl b1 [Kd.i IntKind.u8] r2 (Right.tok 500003), AV.dv (DV.val (Value.bool b3))]] (OSh.chk (OSh.plain (.tup [.i IntKind.i64, .nili]) [[.pl 1000 0, .slt [Kd.i IntKind.u8] 1, .b]]))
theorem strings_Builder_WriteString_e (n : Nat) (s0 : ByteArray) (b1 : Bool) (r2 : Rows) (b3 : Bool) : strings_Builder_WriteString_v n s0 b1 r2 b3 =
  obind (strings_Builder_copyCheck_v n b1 r2 b3) fun y4 =>
  if (List.length y4.snd.fst.snd.fst.snd + ByteArray.size s0) * 1 ≤ 140737488355328 then
    some (((↑(ByteArray.size s0) : Int), ((), ())), (((), ((y4.snd.fst.snd.fst.fst && ByteArray.size s0 == 0, appX y4.snd.fst.snd.fst.snd (byteRows s0)), (y4.snd.fst.snd.snd.fst, ()))), ()))
  else none := by kernel_rfl
theorem strings_Builder_WriteString_c (n : Nat) (s0 : ByteArray) (b1 : Bool) (r2 : Rows) (b3 : Bool) (y : (Int × Unit × Unit) × (Unit × (Bool × Rows) × Bool × Unit) × Unit) (h : strings_Builder_WriteString_v n s0 b1 r2 b3 = some y) : Contract Tryd.prog 43 [AV.pl 1000 0, AV.dv (DV.val (Value.string s0))] [[AV.pl 1000 0, AV.sl b1 [Kd.i IntKind.u8] r2 (Right.tok 500003), AV.dv (DV.val (Value.bool b3))]] (OSh.enc (OSh.plain (.tup [.i IntKind.i64, .nili]) [[.pl 1000 0, .slt [Kd.i IntKind.u8] 1, .b]]) y) :=
  auto_okM tm_std (with_ok mixed (by kernel_rfl) (strings_Builder_WriteString_σok n) n 0 [1000042, 1000043, 1000044, 1000045, 1000046, 1000059, 1000067]) (with_pick mixed (by kernel_rfl) (strings_Builder_WriteString_σok n) n 0 [1000042, 1000043, 1000044, 1000045, 1000046, 1000059, 1000067]) mixed Tryd.func43 (by decide) (o := (OSh.plain (.tup [.i IntKind.i64, .nili]) [[.pl 1000 0, .slt [Kd.i IntKind.u8] 1, .b]])) h
/-! show_printer_term: function 42 -/
def show_printer_term_lv : Live := []
noncomputable def show_printer_term_σ (n : Nat) : Spec := (inst 13 [.agg [.s, .b, .i IntKind.i64, .s]] [] (OSh.plain (.tup [.s, .i IntKind.i64]) []) (fun x e => show_Term_v n x.1.1 x.1.2.1 x.1.2.2.1 x.1.2.2.2.1) (inst 43 [.pl 1000 0, .s] [[.pl 1000 0, .slt [Kd.i IntKind.u8] 500003, .b]] (OSh.plain (.tup [.i IntKind.i64, .nili]) [[.pl 1000 0, .slt [Kd.i IntKind.u8] 1, .b]]) (fun x e => strings_Builder_WriteString_v n x.2.1 e.1.2.1.1 e.1.2.1.2 e.1.2.2.1) Spec.none))
theorem show_printer_term_σok (n : Nat) : SpecOk Tryd.prog (show_printer_term_σ n) := (inst_ok (fun x e y h => show_Term_c n x.1.1 x.1.2.1 x.1.2.2.1 x.1.2.2.2.1 y h) (inst_ok (fun x e y h => strings_Builder_WriteString_c n x.2.1 e.1.2.1.1 e.1.2.1.2 e.1.2.2.1 y h) (SpecOk.none _)))
noncomputable def show_printer_term_Φ (n : Nat) : Orc := with_ Tryd.prog (show_printer_term_σ n) [] n 0 [1000042, 1000043, 1000044, 1000045, 1000046, 1000059, 1000067]
noncomputable def show_printer_term_v (n : Nat) (s0 : ByteArray) (s1 : ByteArray) (b2 : Bool) (j3 : Int) (s4 : ByteArray) (b5 : Bool) (r6 : Rows) (b7 : Bool) : Option (Unit × (Unit × (Bool × Rows) × Bool × Unit) × Unit) :=
  DM.denFn tm (show_printer_term_Φ n) show_printer_term_lv n Tryd.f42 false [AV.pl 1000 0, AV.dv (DV.val (Value.string s0)), AV.agg [AV.dv (DV.val (Value.string s1)), AV.dv (DV.val (Value.bool b2)), AV.dv (DV.val (Value.int IntKind.i64 j3)), AV.dv (DV.val (Value.string s4))]] [[AV.pl 1000 0, AV.sl b5 [Kd.i IntKind.u8] r6 (Right.tok 500004), AV.dv (DV.val (Value.bool b7))]] (OSh.chk (OSh.plain (.tup []) [[.pl 1000 0, .slt [Kd.i IntKind.u8] 1, .b]]))
theorem show_printer_term_e (n : Nat) (s0 : ByteArray) (s1 : ByteArray) (b2 : Bool) (j3 : Int) (s4 : ByteArray) (b5 : Bool) (r6 : Rows) (b7 : Bool) : show_printer_term_v n s0 s1 b2 j3 s4 b5 r6 b7 =
  obind (show_Term_v n s1 b2 j3 s4) fun y8 =>
  bif b7 then
    if ByteArray.size s0 + ByteArray.size y8.fst.fst < 4611686018427387904 then
      obind (strings_Builder_WriteString_v n (s0 ++ y8.fst.fst) b5 r6 true) fun y9 =>
      some ((), (((), ((y9.snd.fst.snd.fst.fst, y9.snd.fst.snd.fst.snd), (y9.snd.fst.snd.snd.fst, ()))), ()))
    else none
  else if ByteArray.size s0 + ByteArray.size y8.fst.fst < 4611686018427387904 then
    obind (strings_Builder_WriteString_v n (s0 ++ y8.fst.fst) b5 r6 (y8.fst.snd.fst != 0)) fun y10 =>
    some ((), (((), ((y10.snd.fst.snd.fst.fst, y10.snd.fst.snd.fst.snd), (y10.snd.fst.snd.snd.fst, ()))), ()))
  else none := by kernel_rfl
theorem show_printer_term_c (n : Nat) (s0 : ByteArray) (s1 : ByteArray) (b2 : Bool) (j3 : Int) (s4 : ByteArray) (b5 : Bool) (r6 : Rows) (b7 : Bool) (y : Unit × (Unit × (Bool × Rows) × Bool × Unit) × Unit) (h : show_printer_term_v n s0 s1 b2 j3 s4 b5 r6 b7 = some y) : Contract Tryd.prog 42 [AV.pl 1000 0, AV.dv (DV.val (Value.string s0)), AV.agg [AV.dv (DV.val (Value.string s1)), AV.dv (DV.val (Value.bool b2)), AV.dv (DV.val (Value.int IntKind.i64 j3)), AV.dv (DV.val (Value.string s4))]] [[AV.pl 1000 0, AV.sl b5 [Kd.i IntKind.u8] r6 (Right.tok 500004), AV.dv (DV.val (Value.bool b7))]] (OSh.enc (OSh.plain (.tup []) [[.pl 1000 0, .slt [Kd.i IntKind.u8] 1, .b]]) y) :=
  auto_okM tm_std (with_ok mixed (by kernel_rfl) (show_printer_term_σok n) n 0 [1000042, 1000043, 1000044, 1000045, 1000046, 1000059, 1000067]) (with_pick mixed (by kernel_rfl) (show_printer_term_σok n) n 0 [1000042, 1000043, 1000044, 1000045, 1000046, 1000059, 1000067]) mixed Tryd.func42 (by decide) (o := (OSh.plain (.tup []) [[.pl 1000 0, .slt [Kd.i IntKind.u8] 1, .b]])) h
/-! show_printer_atom: function 44 -/
def show_printer_atom_lv : Live := [(3, [0, 31, 32, 33], [1000, 1001, 1002, 1003])]
noncomputable def show_printer_atom_σ (n : Nat) : Spec := (inst 43 [.pl 1000 0, .s] [[.pl 1000 0, .slt [Kd.i IntKind.u8] 500003, .b]] (OSh.plain (.tup [.i IntKind.i64, .nili]) [[.pl 1000 0, .slt [Kd.i IntKind.u8] 1, .b]]) (fun x e => strings_Builder_WriteString_v n x.2.1 e.1.2.1.1 e.1.2.1.2 e.1.2.2.1) (inst 37 [.s] [] (OSh.plain (.b) []) (fun x e => show_word_v n x.1) (inst 42 [.pl 1000 0, .s, .agg [.s, .b, .i IntKind.i64, .s]] [[.pl 1000 0, .slt [Kd.i IntKind.u8] 500004, .b]] (OSh.plain (.tup []) [[.pl 1000 0, .slt [Kd.i IntKind.u8] 1, .b]]) (fun x e => show_printer_term_v n x.2.1 x.2.2.1.1 x.2.2.1.2.1 x.2.2.1.2.2.1 x.2.2.1.2.2.2.1 e.1.2.1.1 e.1.2.1.2 e.1.2.2.1) Spec.none)))
theorem show_printer_atom_σok (n : Nat) : SpecOk Tryd.prog (show_printer_atom_σ n) := (inst_ok (fun x e y h => strings_Builder_WriteString_c n x.2.1 e.1.2.1.1 e.1.2.1.2 e.1.2.2.1 y h) (inst_ok (fun x e y h => show_word_c n x.1 y h) (inst_ok (fun x e y h => show_printer_term_c n x.2.1 x.2.2.1.1 x.2.2.1.2.1 x.2.2.1.2.2.1 x.2.2.1.2.2.2.1 e.1.2.1.1 e.1.2.1.2 e.1.2.2.1 y h) (SpecOk.none _))))
noncomputable def show_printer_atom_Φ (n : Nat) : Orc := with_ Tryd.prog (show_printer_atom_σ n) [] n 0 [1000042, 1000043, 1000044, 1000045, 1000046, 1000059, 1000067]
noncomputable def show_printer_atom_v (n : Nat) (s0 : ByteArray) (b1 : Bool) (r2 : Rows) (b3 : Bool) (r4 : Rows) (b5 : Bool) : Option (Unit × (Unit × (Bool × Rows) × Bool × Unit) × Unit) :=
  DM.denFn tm (show_printer_atom_Φ n) show_printer_atom_lv n Tryd.f44 false [AV.pl 1000 0, AV.dv (DV.val (Value.string s0)), AV.sl b1 [Kd.s, Kd.b, Kd.i IntKind.i64, Kd.s] r2 Right.no] [[AV.pl 1000 0, AV.sl b3 [Kd.i IntKind.u8] r4 (Right.tok 500004), AV.dv (DV.val (Value.bool b5))]] (OSh.chk (OSh.plain (.tup []) [[.pl 1000 0, .slt [Kd.i IntKind.u8] 1, .b]]))
noncomputable def show_printer_atom_l3 (n : Nat) (s0 : ByteArray) (b1 : Bool) (r2 : Rows) (b3 : Bool) (r4 : Rows) (b5 : Bool) (i0 : Nat) (b10 : Bool) (r11 : List (List DV)) (b12 : Bool) (j15 : Int) : Option (Unit × (Unit × (Bool × Rows) × Bool × Unit) × Unit) :=
  DM.loopFn tm (show_printer_atom_Φ n) show_printer_atom_lv n Tryd.f44 false [[AV.pl 1000 0, AV.sl b3 [Kd.i IntKind.u8] r4 (Right.tok 500004), AV.dv (DV.val (Value.bool b5))]] (OSh.chk (OSh.plain (.tup []) [[.pl 1000 0, .slt [Kd.i IntKind.u8] 1, .b]])) 3 [] i0 (St.mk [AV.pl 1000 0, AV.junk, AV.junk, AV.junk, AV.junk, AV.junk, AV.junk, AV.junk, AV.junk, AV.junk, AV.junk, AV.junk, AV.junk, AV.junk, AV.junk, AV.junk, AV.junk, AV.junk, AV.junk, AV.junk, AV.junk, AV.junk, AV.junk, AV.junk, AV.junk, AV.junk, AV.junk, AV.junk, AV.junk, AV.junk, AV.junk, AV.sl b1 [Kd.s, Kd.b, Kd.i IntKind.i64, Kd.s] r2 Right.no, AV.dv (DV.val (Value.int IntKind.i64 (↑(List.length r2) : Int))), AV.dv (DV.val (Value.int IntKind.i64 j15)), AV.junk, AV.junk, AV.junk, AV.junk, AV.junk, AV.junk, AV.junk, AV.junk, AV.junk, AV.junk, AV.junk, AV.junk, AV.junk, AV.junk, AV.junk, AV.junk, AV.junk, AV.junk, AV.junk, AV.junk, AV.junk, AV.junk, AV.junk] [(1000, [AV.pl 1000 0, AV.sl b10 [Kd.i IntKind.u8] r11 (Right.tok 84001), AV.dv (DV.val (Value.bool b12))])])
theorem show_printer_atom_s3 (n : Nat) (s0 : ByteArray) (b1 : Bool) (r2 : Rows) (b3 : Bool) (r4 : Rows) (b5 : Bool) (i0 : Nat) (b10 : Bool) (r11 : List (List DV)) (b12 : Bool) (j15 : Int) : show_printer_atom_l3 n s0 b1 r2 b3 r4 b5 (i0 + 1) b10 r11 b12 j15 =
  bif decide (j15 < (↑(List.length r2) : Int)) then
    if 0 ≤ j15 then
      if j15 < (↑(List.length r2) : Int) then
        bif decide (j15 > 0) then
          obind (strings_Builder_WriteString_v n (ByteArray.mk #[44, 32]) b10 r11 b12) fun y16 =>
          bif !y16.snd.fst.snd.snd.fst then
            obind (show_printer_term_v n (ByteArray.mk #[]) (Row.S (List.getD r2 (Int.toNat j15) []) 0) (Row.B (List.getD r2 (Int.toNat j15) []) 1) (Row.I (List.getD r2 (Int.toNat j15) []) 2) (Row.S (List.getD r2 (Int.toNat j15) []) 3) y16.snd.fst.snd.fst.fst y16.snd.fst.snd.fst.snd y16.snd.fst.snd.snd.fst) fun y17 =>
            show_printer_atom_l3 n s0 b1 r2 b3 r4 b5 i0 y17.snd.fst.snd.fst.fst y17.snd.fst.snd.fst.snd y17.snd.fst.snd.snd.fst (IntKind.wrap IntKind.i64 (j15 + 1))
          else show_printer_atom_l3 n s0 b1 r2 b3 r4 b5 i0 y16.snd.fst.snd.fst.fst y16.snd.fst.snd.fst.snd y16.snd.fst.snd.snd.fst (IntKind.wrap IntKind.i64 (j15 + 1))
        else bif !b12 then
          obind (show_printer_term_v n (ByteArray.mk #[]) (Row.S (List.getD r2 (Int.toNat j15) []) 0) (Row.B (List.getD r2 (Int.toNat j15) []) 1) (Row.I (List.getD r2 (Int.toNat j15) []) 2) (Row.S (List.getD r2 (Int.toNat j15) []) 3) b10 r11 b12) fun y18 =>
          show_printer_atom_l3 n s0 b1 r2 b3 r4 b5 i0 y18.snd.fst.snd.fst.fst y18.snd.fst.snd.fst.snd y18.snd.fst.snd.snd.fst (IntKind.wrap IntKind.i64 (j15 + 1))
        else show_printer_atom_l3 n s0 b1 r2 b3 r4 b5 i0 b10 r11 b12 (IntKind.wrap IntKind.i64 (j15 + 1))
      else none
    else none
  else obind (strings_Builder_WriteString_v n (ByteArray.mk #[41]) b10 r11 b12) fun y19 =>
  some ((), (((), ((y19.snd.fst.snd.fst.fst, y19.snd.fst.snd.fst.snd), (y19.snd.fst.snd.snd.fst, ()))), ())) := by kernel_rfl
theorem show_printer_atom_e (n : Nat) (s0 : ByteArray) (b1 : Bool) (r2 : Rows) (b3 : Bool) (r4 : Rows) (b5 : Bool) : show_printer_atom_v n s0 b1 r2 b3 r4 b5 =
  bif b5 then
    if ByteArray.size s0 + 1 < 4611686018427387904 then
      obind (strings_Builder_WriteString_v n (s0 ++ ByteArray.mk #[40]) b3 r4 true) fun y6 =>
      show_printer_atom_l3 n s0 b1 r2 b3 r4 b5 n y6.snd.fst.snd.fst.fst y6.snd.fst.snd.fst.snd y6.snd.fst.snd.snd.fst 0
    else none
  else obind (show_word_v n s0) fun y7 =>
  bif !y7.fst then
    if ByteArray.size s0 + 1 < 4611686018427387904 then
      obind (strings_Builder_WriteString_v n (s0 ++ ByteArray.mk #[40]) b3 r4 true) fun y8 =>
      show_printer_atom_l3 n s0 b1 r2 b3 r4 b5 n y8.snd.fst.snd.fst.fst y8.snd.fst.snd.fst.snd y8.snd.fst.snd.snd.fst 0
    else none
  else if ByteArray.size s0 + 1 < 4611686018427387904 then
    obind (strings_Builder_WriteString_v n (s0 ++ ByteArray.mk #[40]) b3 r4 (decide ((↑(List.length r2) : Int) > 4))) fun y9 =>
    show_printer_atom_l3 n s0 b1 r2 b3 r4 b5 n y9.snd.fst.snd.fst.fst y9.snd.fst.snd.fst.snd y9.snd.fst.snd.snd.fst 0
  else none := by kernel_rfl
theorem show_printer_atom_c (n : Nat) (s0 : ByteArray) (b1 : Bool) (r2 : Rows) (b3 : Bool) (r4 : Rows) (b5 : Bool) (y : Unit × (Unit × (Bool × Rows) × Bool × Unit) × Unit) (h : show_printer_atom_v n s0 b1 r2 b3 r4 b5 = some y) : Contract Tryd.prog 44 [AV.pl 1000 0, AV.dv (DV.val (Value.string s0)), AV.sl b1 [Kd.s, Kd.b, Kd.i IntKind.i64, Kd.s] r2 Right.no] [[AV.pl 1000 0, AV.sl b3 [Kd.i IntKind.u8] r4 (Right.tok 500004), AV.dv (DV.val (Value.bool b5))]] (OSh.enc (OSh.plain (.tup []) [[.pl 1000 0, .slt [Kd.i IntKind.u8] 1, .b]]) y) :=
  auto_okM tm_std (with_ok mixed (by kernel_rfl) (show_printer_atom_σok n) n 0 [1000042, 1000043, 1000044, 1000045, 1000046, 1000059, 1000067]) (with_pick mixed (by kernel_rfl) (show_printer_atom_σok n) n 0 [1000042, 1000043, 1000044, 1000045, 1000046, 1000059, 1000067]) mixed Tryd.func44 (by decide) (o := (OSh.plain (.tup []) [[.pl 1000 0, .slt [Kd.i IntKind.u8] 1, .b]])) h
/-! show_printer_maybe: function 45 -/
def show_printer_maybe_lv : Live := []
noncomputable def show_printer_maybe_σ (n : Nat) : Spec := (inst 42 [.pl 1000 0, .s, .agg [.s, .b, .i IntKind.i64, .s]] [[.pl 1000 0, .slt [Kd.i IntKind.u8] 500004, .b]] (OSh.plain (.tup []) [[.pl 1000 0, .slt [Kd.i IntKind.u8] 1, .b]]) (fun x e => show_printer_term_v n x.2.1 x.2.2.1.1 x.2.2.1.2.1 x.2.2.1.2.2.1 x.2.2.1.2.2.2.1 e.1.2.1.1 e.1.2.1.2 e.1.2.2.1) (inst 43 [.pl 1000 0, .s] [[.pl 1000 0, .slt [Kd.i IntKind.u8] 500003, .b]] (OSh.plain (.tup [.i IntKind.i64, .nili]) [[.pl 1000 0, .slt [Kd.i IntKind.u8] 1, .b]]) (fun x e => strings_Builder_WriteString_v n x.2.1 e.1.2.1.1 e.1.2.1.2 e.1.2.2.1) Spec.none))
theorem show_printer_maybe_σok (n : Nat) : SpecOk Tryd.prog (show_printer_maybe_σ n) := (inst_ok (fun x e y h => show_printer_term_c n x.2.1 x.2.2.1.1 x.2.2.1.2.1 x.2.2.1.2.2.1 x.2.2.1.2.2.2.1 e.1.2.1.1 e.1.2.1.2 e.1.2.2.1 y h) (inst_ok (fun x e y h => strings_Builder_WriteString_c n x.2.1 e.1.2.1.1 e.1.2.1.2 e.1.2.2.1 y h) (SpecOk.none _)))
noncomputable def show_printer_maybe_Φ (n : Nat) : Orc := with_ Tryd.prog (show_printer_maybe_σ n) [] n 0 [1000042, 1000043, 1000044, 1000045, 1000046, 1000059, 1000067]
noncomputable def show_printer_maybe_v (n : Nat) (s0 : ByteArray) (s1 : ByteArray) (b2 : Bool) (j3 : Int) (s4 : ByteArray) (s5 : ByteArray) (b6 : Bool) (r7 : Rows) (b8 : Bool) : Option (Unit × (Unit × (Bool × Rows) × Bool × Unit) × Unit) :=
  DM.denFn tm (show_printer_maybe_Φ n) show_printer_maybe_lv n Tryd.f45 false [AV.pl 1000 0, AV.dv (DV.val (Value.string s0)), AV.agg [AV.dv (DV.val (Value.string s1)), AV.dv (DV.val (Value.bool b2)), AV.dv (DV.val (Value.int IntKind.i64 j3)), AV.dv (DV.val (Value.string s4))], AV.dv (DV.val (Value.string s5))] [[AV.pl 1000 0, AV.sl b6 [Kd.i IntKind.u8] r7 (Right.tok 500005), AV.dv (DV.val (Value.bool b8))]] (OSh.chk (OSh.plain (.tup []) [[.pl 1000 0, .slt [Kd.i IntKind.u8] 1, .b]]))
theorem show_printer_maybe_e (n : Nat) (s0 : ByteArray) (s1 : ByteArray) (b2 : Bool) (j3 : Int) (s4 : ByteArray) (s5 : ByteArray) (b6 : Bool) (r7 : Rows) (b8 : Bool) : show_printer_maybe_v n s0 s1 b2 j3 s4 s5 b6 r7 b8 =
  bif !(s1 == ByteArray.mk #[] && (b2 == false && (j3 == 0 && (s4 == ByteArray.mk #[] && true)))) then
    obind (show_printer_term_v n s0 s1 b2 j3 s4 b6 r7 b8) fun y9 =>
    obind (strings_Builder_WriteString_v n s5 y9.snd.fst.snd.fst.fst y9.snd.fst.snd.fst.snd y9.snd.fst.snd.snd.fst) fun y10 =>
    some ((), (((), ((y10.snd.fst.snd.fst.fst, y10.snd.fst.snd.fst.snd), (y10.snd.fst.snd.snd.fst, ()))), ()))
  else some ((), (((), ((b6, r7), (b8, ()))), ())) := by kernel_rfl
theorem show_printer_maybe_c (n : Nat) (s0 : ByteArray) (s1 : ByteArray) (b2 : Bool) (j3 : Int) (s4 : ByteArray) (s5 : ByteArray) (b6 : Bool) (r7 : Rows) (b8 : Bool) (y : Unit × (Unit × (Bool × Rows) × Bool × Unit) × Unit) (h : show_printer_maybe_v n s0 s1 b2 j3 s4 s5 b6 r7 b8 = some y) : Contract Tryd.prog 45 [AV.pl 1000 0, AV.dv (DV.val (Value.string s0)), AV.agg [AV.dv (DV.val (Value.string s1)), AV.dv (DV.val (Value.bool b2)), AV.dv (DV.val (Value.int IntKind.i64 j3)), AV.dv (DV.val (Value.string s4))], AV.dv (DV.val (Value.string s5))] [[AV.pl 1000 0, AV.sl b6 [Kd.i IntKind.u8] r7 (Right.tok 500005), AV.dv (DV.val (Value.bool b8))]] (OSh.enc (OSh.plain (.tup []) [[.pl 1000 0, .slt [Kd.i IntKind.u8] 1, .b]]) y) :=
  auto_okM tm_std (with_ok mixed (by kernel_rfl) (show_printer_maybe_σok n) n 0 [1000042, 1000043, 1000044, 1000045, 1000046, 1000059, 1000067]) (with_pick mixed (by kernel_rfl) (show_printer_maybe_σok n) n 0 [1000042, 1000043, 1000044, 1000045, 1000046, 1000059, 1000067]) mixed Tryd.func45 (by decide) (o := (OSh.plain (.tup []) [[.pl 1000 0, .slt [Kd.i IntKind.u8] 1, .b]])) h
/-! show_Rule: function 16 -/
def show_Rule_lv : Live := [(10, [4, 48, 49, 50], [24, 1000, 1001, 1002, 1003])]
noncomputable def show_Rule_σ (n : Nat) : Spec := (inst 42 [.pl 1000 0, .s, .agg [.s, .b, .i IntKind.i64, .s]] [[.nilp, .slt [Kd.i IntKind.u8] 500004, .b]] (OSh.plain (.tup []) [[.pl 1000 0, .slt [Kd.i IntKind.u8] 1, .b]]) (fun x e => show_printer_term_nilp_v n x.2.1 x.2.2.1.1 x.2.2.1.2.1 x.2.2.1.2.2.1 x.2.2.1.2.2.2.1 e.1.2.1.1 e.1.2.1.2 e.1.2.2.1) (inst 43 [.pl 1000 0, .s] [[.pl 1000 0, .slt [Kd.i IntKind.u8] 500003, .b]] (OSh.plain (.tup [.i IntKind.i64, .nili]) [[.pl 1000 0, .slt [Kd.i IntKind.u8] 1, .b]]) (fun x e => strings_Builder_WriteString_v n x.2.1 e.1.2.1.1 e.1.2.1.2 e.1.2.2.1) (inst 44 [.pl 1000 0, .s, .sl [Kd.s, Kd.b, Kd.i IntKind.i64, Kd.s]] [[.pl 1000 0, .slt [Kd.i IntKind.u8] 500004, .b]] (OSh.plain (.tup []) [[.pl 1000 0, .slt [Kd.i IntKind.u8] 1, .b]]) (fun x e => show_printer_atom_v n x.2.1 x.2.2.1.1 x.2.2.1.2 e.1.2.1.1 e.1.2.1.2 e.1.2.2.1) (inst 45 [.pl 1000 0, .s, .agg [.s, .b, .i IntKind.i64, .s], .s] [[.pl 1000 0, .slt [Kd.i IntKind.u8] 500005, .b]] (OSh.plain (.tup []) [[.pl 1000 0, .slt [Kd.i IntKind.u8] 1, .b]]) (fun x e => show_printer_maybe_v n x.2.1 x.2.2.1.1 x.2.2.1.2.1 x.2.2.1.2.2.1 x.2.2.1.2.2.2.1 x.2.2.2.1 e.1.2.1.1 e.1.2.1.2 e.1.2.2.1) (inst 46 [.pl 1000 0] [[.pl 1000 0, .slt [Kd.i IntKind.u8] 500002, .b]] (OSh.plain (.s) [[.pl 1000 0, .sl [Kd.i IntKind.u8], .b]]) (fun x e => strings_Builder_String_v n e.1.2.1.1 e.1.2.1.2 e.1.2.2.1) Spec.none)))))
theorem show_Rule_σok (n : Nat) : SpecOk Tryd.prog (show_Rule_σ n) := (inst_ok (fun x e y h => show_printer_term_nilp_c n x.2.1 x.2.2.1.1 x.2.2.1.2.1 x.2.2.1.2.2.1 x.2.2.1.2.2.2.1 e.1.2.1.1 e.1.2.1.2 e.1.2.2.1 y h) (inst_ok (fun x e y h => strings_Builder_WriteString_c n x.2.1 e.1.2.1.1 e.1.2.1.2 e.1.2.2.1 y h) (inst_ok (fun x e y h => show_printer_atom_c n x.2.1 x.2.2.1.1 x.2.2.1.2 e.1.2.1.1 e.1.2.1.2 e.1.2.2.1 y h) (inst_ok (fun x e y h => show_printer_maybe_c n x.2.1 x.2.2.1.1 x.2.2.1.2.1 x.2.2.1.2.2.1 x.2.2.1.2.2.2.1 x.2.2.2.1 e.1.2.1.1 e.1.2.1.2 e.1.2.2.1 y h) (inst_ok (fun x e y h => strings_Builder_String_c n e.1.2.1.1 e.1.2.1.2 e.1.2.2.1 y h) (SpecOk.none _))))))
noncomputable def show_Rule_Φ (n : Nat) : Orc := with_ Tryd.prog (show_Rule_σ n) [] n 0 [1000042, 1000043, 1000044, 1000045, 1000046, 1000059, 1000067]
noncomputable def show_Rule_v (n : Nat) (s0 : ByteArray) (b1 : Bool) (j2 : Int) (s3 : ByteArray) (s4 : ByteArray) (b5 : Bool) (r6 : Rows) (s7 : ByteArray) (b8 : Bool) (j9 : Int) (s10 : ByteArray) (b11 : Bool) (r12 : Rows) : Option ((ByteArray × Int × Unit) × Unit) :=
  DM.denFn tm (show_Rule_Φ n) show_Rule_lv n Tryd.f16 false [AV.agg [AV.dv (DV.val (Value.string s0)), AV.dv (DV.val (Value.bool b1)), AV.dv (DV.val (Value.int IntKind.i64 j2)), AV.dv (DV.val (Value.string s3)), AV.dv (DV.val (Value.string s4)), AV.sl b5 [Kd.s, Kd.b, Kd.i IntKind.i64, Kd.s] r6 Right.no, AV.dv (DV.val (Value.string s7)), AV.dv (DV.val (Value.bool b8)), AV.dv (DV.val (Value.int IntKind.i64 j9)), AV.dv (DV.val (Value.string s10)), AV.sl b11 [Kd.s, Kd.b, Kd.i IntKind.i64, Kd.s, Kd.s, Kd.sl [Kd.s, Kd.b, Kd.i IntKind.i64, Kd.s], Kd.s, Kd.b, Kd.i IntKind.i64, Kd.s] r12 Right.no]] [] (OSh.chk (OSh.plain (.tup [.s, .i IntKind.i64]) []))
noncomputable def show_Rule_l10 (n : Nat) (s0 : ByteArray) (b1 : Bool) (j2 : Int) (s3 : ByteArray) (s4 : ByteArray) (b5 : Bool) (r6 : Rows) (s7 : ByteArray) (b8 : Bool) (j9 : Int) (s10 : ByteArray) (b11 : Bool) (r12 : Rows) (i0 : Nat) (b18 : Bool) (r19 : List (List DV)) (b20 : Bool) (j25 : Int) : Option ((ByteArray × Int × Unit) × Unit) :=
  DM.loopFn tm (show_Rule_Φ n) show_Rule_lv n Tryd.f16 false [] (OSh.chk (OSh.plain (.tup [.s, .i IntKind.i64]) [])) 10 [] i0 (St.mk [AV.junk, AV.junk, AV.junk, AV.junk, AV.pl 24 0, AV.junk, AV.junk, AV.junk, AV.junk, AV.junk, AV.junk, AV.junk, AV.junk, AV.junk, AV.junk, AV.junk, AV.junk, AV.junk, AV.junk, AV.junk, AV.junk, AV.junk, AV.junk, AV.junk, AV.junk, AV.junk, AV.junk, AV.junk, AV.junk, AV.junk, AV.junk, AV.junk, AV.junk, AV.junk, AV.junk, AV.junk, AV.junk, AV.junk, AV.junk, AV.junk, AV.junk, AV.junk, AV.junk, AV.junk, AV.junk, AV.junk, AV.junk, AV.junk, AV.sl b11 [Kd.s, Kd.b, Kd.i IntKind.i64, Kd.s, Kd.s, Kd.sl [Kd.s, Kd.b, Kd.i IntKind.i64, Kd.s], Kd.s, Kd.b, Kd.i IntKind.i64, Kd.s] r12 Right.no, AV.dv (DV.val (Value.int IntKind.i64 (↑(List.length r12) : Int))), AV.dv (DV.val (Value.int IntKind.i64 j25)), AV.junk, AV.junk, AV.junk, AV.junk, AV.junk, AV.junk, AV.junk, AV.junk, AV.junk, AV.junk, AV.junk, AV.junk, AV.junk, AV.junk, AV.junk, AV.junk, AV.junk, AV.junk, AV.junk, AV.junk, AV.junk, AV.junk, AV.junk, AV.junk, AV.junk, AV.junk, AV.junk, AV.junk, AV.junk, AV.junk, AV.junk, AV.junk, AV.junk, AV.junk, AV.junk, AV.junk, AV.junk, AV.junk, AV.junk, AV.junk, AV.junk, AV.junk, AV.junk, AV.junk] [(24, [AV.pl 24 0, AV.sl b18 [Kd.i IntKind.u8] r19 (Right.tok 21537), AV.dv (DV.val (Value.bool b20))])])
theorem show_Rule_s10 (n : Nat) (s0 : ByteArray) (b1 : Bool) (j2 : Int) (s3 : ByteArray) (s4 : ByteArray) (b5 : Bool) (r6 : Rows) (s7 : ByteArray) (b8 : Bool) (j9 : Int) (s10 : ByteArray) (b11 : Bool) (r12 : Rows) (i0 : Nat) (b18 : Bool) (r19 : List (List DV)) (b20 : Bool) (j25 : Int) : show_Rule_l10 n s0 b1 j2 s3 s4 b5 r6 s7 b8 j9 s10 b11 r12 (i0 + 1) b18 r19 b20 j25 =
  bif decide (j25 < (↑(List.length r12) : Int)) then
    if 0 ≤ j25 then
      if j25 < (↑(List.length r12) : Int) then
        bif decide (j25 > 0) then
          obind (strings_Builder_WriteString_v n (ByteArray.mk #[44, 32]) b18 r19 b20) fun y26 =>
          bif y26.snd.fst.snd.snd.fst then
            some ((ByteArray.mk #[], (100, ())), ())
          else bif decide ((↑(List.length (Row.R (List.getD r12 (Int.toNat j25) []) 5)) : Int) > 4) then
            some ((ByteArray.mk #[], (100, ())), ())
          else obind (show_printer_maybe_v n (ByteArray.mk #[]) (Row.S (List.getD r12 (Int.toNat j25) []) 0) (Row.B (List.getD r12 (Int.toNat j25) []) 1) (Row.I (List.getD r12 (Int.toNat j25) []) 2) (Row.S (List.getD r12 (Int.toNat j25) []) 3) (ByteArray.mk #[32, 115, 97, 121, 115, 32]) y26.snd.fst.snd.fst.fst y26.snd.fst.snd.fst.snd y26.snd.fst.snd.snd.fst) fun y27 =>
          obind (show_printer_atom_v n (Row.S (List.getD r12 (Int.toNat j25) []) 4) (Row.N (List.getD r12 (Int.toNat j25) []) 5) (Row.R (List.getD r12 (Int.toNat j25) []) 5) y27.snd.fst.snd.fst.fst y27.snd.fst.snd.fst.snd y27.snd.fst.snd.snd.fst) fun y28 =>
          obind (show_printer_maybe_v n (ByteArray.mk #[32, 97, 116, 32]) (Row.S (List.getD r12 (Int.toNat j25) []) 6) (Row.B (List.getD r12 (Int.toNat j25) []) 7) (Row.I (List.getD r12 (Int.toNat j25) []) 8) (Row.S (List.getD r12 (Int.toNat j25) []) 9) (ByteArray.mk #[]) y28.snd.fst.snd.fst.fst y28.snd.fst.snd.fst.snd y28.snd.fst.snd.snd.fst) fun y29 =>
          show_Rule_l10 n s0 b1 j2 s3 s4 b5 r6 s7 b8 j9 s10 b11 r12 i0 y29.snd.fst.snd.fst.fst y29.snd.fst.snd.fst.snd y29.snd.fst.snd.snd.fst (IntKind.wrap IntKind.i64 (j25 + 1))
        else bif b20 then
          some ((ByteArray.mk #[], (100, ())), ())
        else bif decide ((↑(List.length (Row.R (List.getD r12 (Int.toNat j25) []) 5)) : Int) > 4) then
          some ((ByteArray.mk #[], (100, ())), ())
        else obind (show_printer_maybe_v n (ByteArray.mk #[]) (Row.S (List.getD r12 (Int.toNat j25) []) 0) (Row.B (List.getD r12 (Int.toNat j25) []) 1) (Row.I (List.getD r12 (Int.toNat j25) []) 2) (Row.S (List.getD r12 (Int.toNat j25) []) 3) (ByteArray.mk #[32, 115, 97, 121, 115, 32]) b18 r19 b20) fun y30 =>
        obind (show_printer_atom_v n (Row.S (List.getD r12 (Int.toNat j25) []) 4) (Row.N (List.getD r12 (Int.toNat j25) []) 5) (Row.R (List.getD r12 (Int.toNat j25) []) 5) y30.snd.fst.snd.fst.fst y30.snd.fst.snd.fst.snd y30.snd.fst.snd.snd.fst) fun y31 =>
        obind (show_printer_maybe_v n (ByteArray.mk #[32, 97, 116, 32]) (Row.S (List.getD r12 (Int.toNat j25) []) 6) (Row.B (List.getD r12 (Int.toNat j25) []) 7) (Row.I (List.getD r12 (Int.toNat j25) []) 8) (Row.S (List.getD r12 (Int.toNat j25) []) 9) (ByteArray.mk #[]) y31.snd.fst.snd.fst.fst y31.snd.fst.snd.fst.snd y31.snd.fst.snd.snd.fst) fun y32 =>
        show_Rule_l10 n s0 b1 j2 s3 s4 b5 r6 s7 b8 j9 s10 b11 r12 i0 y32.snd.fst.snd.fst.fst y32.snd.fst.snd.fst.snd y32.snd.fst.snd.snd.fst (IntKind.wrap IntKind.i64 (j25 + 1))
      else none
    else none
  else bif b20 then
    some ((ByteArray.mk #[], (100, ())), ())
  else obind (strings_Builder_String_v n b18 r19 b20) fun y33 =>
  if ByteArray.size y33.fst + 1 < 4611686018427387904 then
    some ((y33.fst ++ ByteArray.mk #[46], (0, ())), ())
  else none := by kernel_rfl
theorem show_Rule_e (n : Nat) (s0 : ByteArray) (b1 : Bool) (j2 : Int) (s3 : ByteArray) (s4 : ByteArray) (b5 : Bool) (r6 : Rows) (s7 : ByteArray) (b8 : Bool) (j9 : Int) (s10 : ByteArray) (b11 : Bool) (r12 : Rows) : show_Rule_v n s0 b1 j2 s3 s4 b5 r6 s7 b8 j9 s10 b11 r12 =
  bif decide ((↑(List.length r12) : Int) < 1) then
    some ((ByteArray.mk #[], (100, ())), ())
  else bif decide ((↑(List.length r12) : Int) > 4) then
    some ((ByteArray.mk #[], (100, ())), ())
  else bif decide ((↑(List.length r6) : Int) > 4) then
    some ((ByteArray.mk #[], (100, ())), ())
  else obind (show_printer_term_nilp_v n (ByteArray.mk #[]) s0 b1 j2 s3 true [] false) fun y13 =>
  obind (strings_Builder_WriteString_v n (ByteArray.mk #[58, 32]) y13.snd.fst.snd.fst.fst y13.snd.fst.snd.fst.snd y13.snd.fst.snd.snd.fst) fun y14 =>
  obind (show_printer_atom_v n s4 b5 r6 y14.snd.fst.snd.fst.fst y14.snd.fst.snd.fst.snd y14.snd.fst.snd.snd.fst) fun y15 =>
  obind (show_printer_maybe_v n (ByteArray.mk #[32, 116, 111, 32]) s7 b8 j9 s10 (ByteArray.mk #[]) y15.snd.fst.snd.fst.fst y15.snd.fst.snd.fst.snd y15.snd.fst.snd.snd.fst) fun y16 =>
  obind (strings_Builder_WriteString_v n (ByteArray.mk #[32, 58, 45, 32]) y16.snd.fst.snd.fst.fst y16.snd.fst.snd.fst.snd y16.snd.fst.snd.snd.fst) fun y17 =>
  show_Rule_l10 n s0 b1 j2 s3 s4 b5 r6 s7 b8 j9 s10 b11 r12 n y17.snd.fst.snd.fst.fst y17.snd.fst.snd.fst.snd y17.snd.fst.snd.snd.fst 0 := by kernel_rfl
theorem show_Rule_c (n : Nat) (s0 : ByteArray) (b1 : Bool) (j2 : Int) (s3 : ByteArray) (s4 : ByteArray) (b5 : Bool) (r6 : Rows) (s7 : ByteArray) (b8 : Bool) (j9 : Int) (s10 : ByteArray) (b11 : Bool) (r12 : Rows) (y : (ByteArray × Int × Unit) × Unit) (h : show_Rule_v n s0 b1 j2 s3 s4 b5 r6 s7 b8 j9 s10 b11 r12 = some y) : Contract Tryd.prog 16 [AV.agg [AV.dv (DV.val (Value.string s0)), AV.dv (DV.val (Value.bool b1)), AV.dv (DV.val (Value.int IntKind.i64 j2)), AV.dv (DV.val (Value.string s3)), AV.dv (DV.val (Value.string s4)), AV.sl b5 [Kd.s, Kd.b, Kd.i IntKind.i64, Kd.s] r6 Right.no, AV.dv (DV.val (Value.string s7)), AV.dv (DV.val (Value.bool b8)), AV.dv (DV.val (Value.int IntKind.i64 j9)), AV.dv (DV.val (Value.string s10)), AV.sl b11 [Kd.s, Kd.b, Kd.i IntKind.i64, Kd.s, Kd.s, Kd.sl [Kd.s, Kd.b, Kd.i IntKind.i64, Kd.s], Kd.s, Kd.b, Kd.i IntKind.i64, Kd.s] r12 Right.no]] [] (OSh.enc (OSh.plain (.tup [.s, .i IntKind.i64]) []) y) :=
  auto_okM tm_std (with_ok mixed (by kernel_rfl) (show_Rule_σok n) n 0 [1000042, 1000043, 1000044, 1000045, 1000046, 1000059, 1000067]) (with_pick mixed (by kernel_rfl) (show_Rule_σok n) n 0 [1000042, 1000043, 1000044, 1000045, 1000046, 1000059, 1000067]) mixed Tryd.func16 (by decide) (o := (OSh.plain (.tup [.s, .i IntKind.i64]) [])) h
/-! show_Program: function 20 -/
def show_Program_lv : Live := [(5, [4, 12, 13, 14], [1000, 1001, 1002, 1003])]
noncomputable def show_Program_σ (n : Nat) : Spec := (inst 16 [.agg [.s, .b, .i IntKind.i64, .s, .s, .sl [Kd.s, Kd.b, Kd.i IntKind.i64, Kd.s], .s, .b, .i IntKind.i64, .s, .sl [Kd.s, Kd.b, Kd.i IntKind.i64, Kd.s, Kd.s, Kd.sl [Kd.s, Kd.b, Kd.i IntKind.i64, Kd.s], Kd.s, Kd.b, Kd.i IntKind.i64, Kd.s]]] [] (OSh.plain (.tup [.s, .i IntKind.i64]) []) (fun x e => show_Rule_v n x.1.1 x.1.2.1 x.1.2.2.1 x.1.2.2.2.1 x.1.2.2.2.2.1 x.1.2.2.2.2.2.1.1 x.1.2.2.2.2.2.1.2 x.1.2.2.2.2.2.2.1 x.1.2.2.2.2.2.2.2.1 x.1.2.2.2.2.2.2.2.2.1 x.1.2.2.2.2.2.2.2.2.2.1 x.1.2.2.2.2.2.2.2.2.2.2.1.1 x.1.2.2.2.2.2.2.2.2.2.2.1.2) Spec.none)
theorem show_Program_σok (n : Nat) : SpecOk Tryd.prog (show_Program_σ n) := (inst_ok (fun x e y h => show_Rule_c n x.1.1 x.1.2.1 x.1.2.2.1 x.1.2.2.2.1 x.1.2.2.2.2.1 x.1.2.2.2.2.2.1.1 x.1.2.2.2.2.2.1.2 x.1.2.2.2.2.2.2.1 x.1.2.2.2.2.2.2.2.1 x.1.2.2.2.2.2.2.2.2.1 x.1.2.2.2.2.2.2.2.2.2.1 x.1.2.2.2.2.2.2.2.2.2.2.1.1 x.1.2.2.2.2.2.2.2.2.2.2.1.2 y h) (SpecOk.none _))
noncomputable def show_Program_Φ (n : Nat) : Orc := with_ Tryd.prog (show_Program_σ n) [] n 0 [1000042, 1000043, 1000044, 1000045, 1000046, 1000059, 1000067]
noncomputable def show_Program_v (n : Nat) (b0 : Bool) (r1 : Rows) : Option ((ByteArray × Int × Unit) × Unit) :=
  DM.denFn tm (show_Program_Φ n) show_Program_lv n Tryd.f20 false [AV.sl b0 [Kd.s, Kd.b, Kd.i IntKind.i64, Kd.s, Kd.s, Kd.sl [Kd.s, Kd.b, Kd.i IntKind.i64, Kd.s], Kd.s, Kd.b, Kd.i IntKind.i64, Kd.s, Kd.sl [Kd.s, Kd.b, Kd.i IntKind.i64, Kd.s, Kd.s, Kd.sl [Kd.s, Kd.b, Kd.i IntKind.i64, Kd.s], Kd.s, Kd.b, Kd.i IntKind.i64, Kd.s]] r1 Right.no] [] (OSh.chk (OSh.plain (.tup [.s, .i IntKind.i64]) []))
noncomputable def show_Program_l5 (n : Nat) (b0 : Bool) (r1 : Rows) (i0 : Nat) (s3 : ByteArray) (j4 : Int) : Option ((ByteArray × Int × Unit) × Unit) :=
  DM.loopFn tm (show_Program_Φ n) show_Program_lv n Tryd.f20 false [] (OSh.chk (OSh.plain (.tup [.s, .i IntKind.i64]) [])) 5 [] i0 (St.mk [AV.junk, AV.junk, AV.junk, AV.junk, AV.dv (DV.val (Value.string s3)), AV.junk, AV.junk, AV.junk, AV.junk, AV.junk, AV.junk, AV.junk, AV.sl b0 [Kd.s, Kd.b, Kd.i IntKind.i64, Kd.s, Kd.s, Kd.sl [Kd.s, Kd.b, Kd.i IntKind.i64, Kd.s], Kd.s, Kd.b, Kd.i IntKind.i64, Kd.s, Kd.sl [Kd.s, Kd.b, Kd.i IntKind.i64, Kd.s, Kd.s, Kd.sl [Kd.s, Kd.b, Kd.i IntKind.i64, Kd.s], Kd.s, Kd.b, Kd.i IntKind.i64, Kd.s]] r1 Right.no, AV.dv (DV.val (Value.int IntKind.i64 (↑(List.length r1) : Int))), AV.dv (DV.val (Value.int IntKind.i64 j4)), AV.junk, AV.junk, AV.junk, AV.junk, AV.junk, AV.junk, AV.junk, AV.junk, AV.junk, AV.junk, AV.junk, AV.junk, AV.junk, AV.junk, AV.junk, AV.junk, AV.junk, AV.junk, AV.junk, AV.junk] [])
theorem show_Program_s5 (n : Nat) (b0 : Bool) (r1 : Rows) (i0 : Nat) (s3 : ByteArray) (j4 : Int) : show_Program_l5 n b0 r1 (i0 + 1) s3 j4 =
  bif decide (j4 < (↑(List.length r1) : Int)) then
    if 0 ≤ j4 then
      if j4 < (↑(List.length r1) : Int) then
        obind (show_Rule_v n (Row.S (List.getD r1 (Int.toNat j4) []) 0) (Row.B (List.getD r1 (Int.toNat j4) []) 1) (Row.I (List.getD r1 (Int.toNat j4) []) 2) (Row.S (List.getD r1 (Int.toNat j4) []) 3) (Row.S (List.getD r1 (Int.toNat j4) []) 4) (Row.N (List.getD r1 (Int.toNat j4) []) 5) (Row.R (List.getD r1 (Int.toNat j4) []) 5) (Row.S (List.getD r1 (Int.toNat j4) []) 6) (Row.B (List.getD r1 (Int.toNat j4) []) 7) (Row.I (List.getD r1 (Int.toNat j4) []) 8) (Row.S (List.getD r1 (Int.toNat j4) []) 9) (Row.N (List.getD r1 (Int.toNat j4) []) 10) (Row.R (List.getD r1 (Int.toNat j4) []) 10)) fun y5 =>
        bif y5.fst.snd.fst != 0 then
          some ((ByteArray.mk #[], (y5.fst.snd.fst, ())), ())
        else if ByteArray.size y5.fst.fst + 1 < 4611686018427387904 then
          if ByteArray.size s3 + ByteArray.size (y5.fst.fst ++ ByteArray.mk #[10]) < 4611686018427387904 then
            show_Program_l5 n b0 r1 i0 (s3 ++ (y5.fst.fst ++ ByteArray.mk #[10])) (IntKind.wrap IntKind.i64 (j4 + 1))
          else none
        else none
      else none
    else none
  else bif decide ((↑(ByteArray.size s3) : Int) > 4096) then
    some ((ByteArray.mk #[], (3, ())), ())
  else some ((s3, (0, ())), ()) := by kernel_rfl
theorem show_Program_e (n : Nat) (b0 : Bool) (r1 : Rows) : show_Program_v n b0 r1 =
  bif decide ((↑(List.length r1) : Int) > 16) then
    some ((ByteArray.mk #[], (81, ())), ())
  else show_Program_l5 n b0 r1 n (ByteArray.mk #[]) 0 := by kernel_rfl
theorem show_Program_c (n : Nat) (b0 : Bool) (r1 : Rows) (y : (ByteArray × Int × Unit) × Unit) (h : show_Program_v n b0 r1 = some y) : Contract Tryd.prog 20 [AV.sl b0 [Kd.s, Kd.b, Kd.i IntKind.i64, Kd.s, Kd.s, Kd.sl [Kd.s, Kd.b, Kd.i IntKind.i64, Kd.s], Kd.s, Kd.b, Kd.i IntKind.i64, Kd.s, Kd.sl [Kd.s, Kd.b, Kd.i IntKind.i64, Kd.s, Kd.s, Kd.sl [Kd.s, Kd.b, Kd.i IntKind.i64, Kd.s], Kd.s, Kd.b, Kd.i IntKind.i64, Kd.s]] r1 Right.no] [] (OSh.enc (OSh.plain (.tup [.s, .i IntKind.i64]) []) y) :=
  auto_okM tm_std (with_ok mixed (by kernel_rfl) (show_Program_σok n) n 0 [1000042, 1000043, 1000044, 1000045, 1000046, 1000059, 1000067]) (with_pick mixed (by kernel_rfl) (show_Program_σok n) n 0 [1000042, 1000043, 1000044, 1000045, 1000046, 1000059, 1000067]) mixed Tryd.func20 (by decide) (o := (OSh.plain (.tup [.s, .i IntKind.i64]) [])) h
/-! ref09_letter: function 65 -/
def ref09_letter_lv : Live := []
noncomputable def ref09_letter_σ (n : Nat) : Spec := Spec.none
theorem ref09_letter_σok (n : Nat) : SpecOk Tryd.prog (ref09_letter_σ n) := (SpecOk.none _)
noncomputable def ref09_letter_Φ (n : Nat) : Orc := with_ Tryd.prog (ref09_letter_σ n) [] n 0 [1000042, 1000043, 1000044, 1000045, 1000046, 1000059, 1000067]
noncomputable def ref09_letter_v (n : Nat) (j0 : Int) (j1 : Int) (j2 : Int) : Option (Bool × Unit) :=
  DM.denFn tm (ref09_letter_Φ n) ref09_letter_lv n Tryd.f65 false [AV.dv (DV.val (Value.int IntKind.u8 j0)), AV.dv (DV.val (Value.int IntKind.u8 j1)), AV.dv (DV.val (Value.int IntKind.u8 j2))] [] (OSh.chk (OSh.plain (.b) []))
theorem ref09_letter_e (n : Nat) (j0 : Int) (j1 : Int) (j2 : Int) : ref09_letter_v n j0 j1 j2 =
  bif decide (j0 ≥ j1) then
    some (decide (j0 ≤ j2), ())
  else some (false, ()) := by kernel_rfl
theorem ref09_letter_c (n : Nat) (j0 : Int) (j1 : Int) (j2 : Int) (y : Bool × Unit) (h : ref09_letter_v n j0 j1 j2 = some y) : Contract Tryd.prog 65 [AV.dv (DV.val (Value.int IntKind.u8 j0)), AV.dv (DV.val (Value.int IntKind.u8 j1)), AV.dv (DV.val (Value.int IntKind.u8 j2))] [] (OSh.enc (OSh.plain (.b) []) y) :=
  auto_okM tm_std (with_ok mixed (by kernel_rfl) (ref09_letter_σok n) n 0 [1000042, 1000043, 1000044, 1000045, 1000046, 1000059, 1000067]) (with_pick mixed (by kernel_rfl) (ref09_letter_σok n) n 0 [1000042, 1000043, 1000044, 1000045, 1000046, 1000059, 1000067]) mixed Tryd.func65 (by decide) (o := (OSh.plain (.b) [])) h
/-! ref07_small: function 87 -/
def ref07_small_lv : Live := []
noncomputable def ref07_small_σ (n : Nat) : Spec := Spec.none
theorem ref07_small_σok (n : Nat) : SpecOk Tryd.prog (ref07_small_σ n) := (SpecOk.none _)
noncomputable def ref07_small_Φ (n : Nat) : Orc := with_ Tryd.prog (ref07_small_σ n) [] n 0 [1000042, 1000043, 1000044, 1000045, 1000046, 1000059, 1000067]
noncomputable def ref07_small_v (n : Nat) (j0 : Int) : Option (Bool × Unit) :=
  DM.denFn tm (ref07_small_Φ n) ref07_small_lv n Tryd.f87 false [AV.dv (DV.val (Value.int IntKind.u8 j0))] [] (OSh.chk (OSh.plain (.b) []))
theorem ref07_small_e (n : Nat) (j0 : Int) : ref07_small_v n j0 =
  bif decide (j0 ≥ 97) then
    some (decide (j0 ≤ 122), ())
  else some (false, ()) := by kernel_rfl
theorem ref07_small_c (n : Nat) (j0 : Int) (y : Bool × Unit) (h : ref07_small_v n j0 = some y) : Contract Tryd.prog 87 [AV.dv (DV.val (Value.int IntKind.u8 j0))] [] (OSh.enc (OSh.plain (.b) []) y) :=
  auto_okM tm_std (with_ok mixed (by kernel_rfl) (ref07_small_σok n) n 0 [1000042, 1000043, 1000044, 1000045, 1000046, 1000059, 1000067]) (with_pick mixed (by kernel_rfl) (ref07_small_σok n) n 0 [1000042, 1000043, 1000044, 1000045, 1000046, 1000059, 1000067]) mixed Tryd.func87 (by decide) (o := (OSh.plain (.b) [])) h
/-! ref07_great: function 88 -/
def ref07_great_lv : Live := []
noncomputable def ref07_great_σ (n : Nat) : Spec := Spec.none
theorem ref07_great_σok (n : Nat) : SpecOk Tryd.prog (ref07_great_σ n) := (SpecOk.none _)
noncomputable def ref07_great_Φ (n : Nat) : Orc := with_ Tryd.prog (ref07_great_σ n) [] n 0 [1000042, 1000043, 1000044, 1000045, 1000046, 1000059, 1000067]
noncomputable def ref07_great_v (n : Nat) (j0 : Int) : Option (Bool × Unit) :=
  DM.denFn tm (ref07_great_Φ n) ref07_great_lv n Tryd.f88 false [AV.dv (DV.val (Value.int IntKind.u8 j0))] [] (OSh.chk (OSh.plain (.b) []))
theorem ref07_great_e (n : Nat) (j0 : Int) : ref07_great_v n j0 =
  bif decide (j0 ≥ 65) then
    some (decide (j0 ≤ 90), ())
  else some (false, ()) := by kernel_rfl
theorem ref07_great_c (n : Nat) (j0 : Int) (y : Bool × Unit) (h : ref07_great_v n j0 = some y) : Contract Tryd.prog 88 [AV.dv (DV.val (Value.int IntKind.u8 j0))] [] (OSh.enc (OSh.plain (.b) []) y) :=
  auto_okM tm_std (with_ok mixed (by kernel_rfl) (ref07_great_σok n) n 0 [1000042, 1000043, 1000044, 1000045, 1000046, 1000059, 1000067]) (with_pick mixed (by kernel_rfl) (ref07_great_σok n) n 0 [1000042, 1000043, 1000044, 1000045, 1000046, 1000059, 1000067]) mixed Tryd.func88 (by decide) (o := (OSh.plain (.b) [])) h
/-! ref07_digit: function 89 -/
def ref07_digit_lv : Live := []
noncomputable def ref07_digit_σ (n : Nat) : Spec := Spec.none
theorem ref07_digit_σok (n : Nat) : SpecOk Tryd.prog (ref07_digit_σ n) := (SpecOk.none _)
noncomputable def ref07_digit_Φ (n : Nat) : Orc := with_ Tryd.prog (ref07_digit_σ n) [] n 0 [1000042, 1000043, 1000044, 1000045, 1000046, 1000059, 1000067]
noncomputable def ref07_digit_v (n : Nat) (j0 : Int) : Option (Bool × Unit) :=
  DM.denFn tm (ref07_digit_Φ n) ref07_digit_lv n Tryd.f89 false [AV.dv (DV.val (Value.int IntKind.u8 j0))] [] (OSh.chk (OSh.plain (.b) []))
theorem ref07_digit_e (n : Nat) (j0 : Int) : ref07_digit_v n j0 =
  bif decide (j0 ≥ 48) then
    some (decide (j0 ≤ 57), ())
  else some (false, ()) := by kernel_rfl
theorem ref07_digit_c (n : Nat) (j0 : Int) (y : Bool × Unit) (h : ref07_digit_v n j0 = some y) : Contract Tryd.prog 89 [AV.dv (DV.val (Value.int IntKind.u8 j0))] [] (OSh.enc (OSh.plain (.b) []) y) :=
  auto_okM tm_std (with_ok mixed (by kernel_rfl) (ref07_digit_σok n) n 0 [1000042, 1000043, 1000044, 1000045, 1000046, 1000059, 1000067]) (with_pick mixed (by kernel_rfl) (ref07_digit_σok n) n 0 [1000042, 1000043, 1000044, 1000045, 1000046, 1000059, 1000067]) mixed Tryd.func89 (by decide) (o := (OSh.plain (.b) [])) h
/-! ref07_Inner: function 66 -/
def ref07_Inner_lv : Live := []
noncomputable def ref07_Inner_σ (n : Nat) : Spec := (inst 87 [.i IntKind.u8] [] (OSh.plain (.b) []) (fun x e => ref07_small_v n x.1) (inst 88 [.i IntKind.u8] [] (OSh.plain (.b) []) (fun x e => ref07_great_v n x.1) (inst 89 [.i IntKind.u8] [] (OSh.plain (.b) []) (fun x e => ref07_digit_v n x.1) Spec.none)))
theorem ref07_Inner_σok (n : Nat) : SpecOk Tryd.prog (ref07_Inner_σ n) := (inst_ok (fun x e y h => ref07_small_c n x.1 y h) (inst_ok (fun x e y h => ref07_great_c n x.1 y h) (inst_ok (fun x e y h => ref07_digit_c n x.1 y h) (SpecOk.none _))))
noncomputable def ref07_Inner_Φ (n : Nat) : Orc := with_ Tryd.prog (ref07_Inner_σ n) [] n 0 [1000042, 1000043, 1000044, 1000045, 1000046, 1000059, 1000067]
noncomputable def ref07_Inner_v (n : Nat) (j0 : Int) : Option (Bool × Unit) :=
  DM.denFn tm (ref07_Inner_Φ n) ref07_Inner_lv n Tryd.f66 false [AV.dv (DV.val (Value.int IntKind.u8 j0))] [] (OSh.chk (OSh.plain (.b) []))
theorem ref07_Inner_e (n : Nat) (j0 : Int) : ref07_Inner_v n j0 =
  obind (ref07_small_v n j0) fun y1 =>
  bif y1.fst then
    some (true, ())
  else obind (ref07_great_v n j0) fun y2 =>
  bif y2.fst then
    some (true, ())
  else obind (ref07_digit_v n j0) fun y3 =>
  bif y3.fst then
    some (true, ())
  else some (j0 == 95, ()) := by kernel_rfl
theorem ref07_Inner_c (n : Nat) (j0 : Int) (y : Bool × Unit) (h : ref07_Inner_v n j0 = some y) : Contract Tryd.prog 66 [AV.dv (DV.val (Value.int IntKind.u8 j0))] [] (OSh.enc (OSh.plain (.b) []) y) :=
  auto_okM tm_std (with_ok mixed (by kernel_rfl) (ref07_Inner_σok n) n 0 [1000042, 1000043, 1000044, 1000045, 1000046, 1000059, 1000067]) (with_pick mixed (by kernel_rfl) (ref07_Inner_σok n) n 0 [1000042, 1000043, 1000044, 1000045, 1000046, 1000059, 1000067]) mixed Tryd.func66 (by decide) (o := (OSh.plain (.b) [])) h
/-! ref09_named: function 38 -/
def ref09_named_lv : Live := [(4, [0, 7], [1000, 1001, 1002, 1003])]
noncomputable def ref09_named_σ (n : Nat) : Spec := (inst 65 [.i IntKind.u8, .i IntKind.u8, .i IntKind.u8] [] (OSh.plain (.b) []) (fun x e => ref09_letter_v n x.1 x.2.1 x.2.2.1) (inst 66 [.i IntKind.u8] [] (OSh.plain (.b) []) (fun x e => ref07_Inner_v n x.1) Spec.none))
theorem ref09_named_σok (n : Nat) : SpecOk Tryd.prog (ref09_named_σ n) := (inst_ok (fun x e y h => ref09_letter_c n x.1 x.2.1 x.2.2.1 y h) (inst_ok (fun x e y h => ref07_Inner_c n x.1 y h) (SpecOk.none _)))
noncomputable def ref09_named_Φ (n : Nat) : Orc := with_ Tryd.prog (ref09_named_σ n) [] n 0 [1000042, 1000043, 1000044, 1000045, 1000046, 1000059, 1000067]
noncomputable def ref09_named_v (n : Nat) (s0 : ByteArray) (j1 : Int) (j2 : Int) : Option (Bool × Unit) :=
  DM.denFn tm (ref09_named_Φ n) ref09_named_lv n Tryd.f38 false [AV.dv (DV.val (Value.string s0)), AV.dv (DV.val (Value.int IntKind.u8 j1)), AV.dv (DV.val (Value.int IntKind.u8 j2))] [] (OSh.chk (OSh.plain (.b) []))
noncomputable def ref09_named_l4 (n : Nat) (s0 : ByteArray) (j1 : Int) (j2 : Int) (i0 : Nat) (j5 : Int) : Option (Bool × Unit) :=
  DM.loopFn tm (ref09_named_Φ n) ref09_named_lv n Tryd.f38 false [] (OSh.chk (OSh.plain (.b) [])) 4 [] i0 (St.mk [AV.dv (DV.val (Value.string s0)), AV.junk, AV.junk, AV.junk, AV.junk, AV.junk, AV.junk, AV.dv (DV.val (Value.int IntKind.i64 j5)), AV.junk, AV.junk, AV.junk, AV.junk, AV.junk, AV.junk, AV.junk, AV.junk, AV.junk, AV.junk, AV.junk, AV.junk, AV.junk, AV.junk, AV.junk, AV.junk, AV.junk, AV.junk, AV.junk, AV.junk, AV.junk, AV.junk, AV.junk, AV.junk, AV.junk, AV.junk, AV.junk] [])
theorem ref09_named_s4 (n : Nat) (s0 : ByteArray) (j1 : Int) (j2 : Int) (i0 : Nat) (j5 : Int) : ref09_named_l4 n s0 j1 j2 (i0 + 1) j5 =
  bif decide (j5 < (↑(ByteArray.size s0) : Int)) then
    if 0 ≤ j5 then
      if j5 < (↑(ByteArray.size s0) : Int) then
        obind (ref07_Inner_v n (bt s0 j5)) fun y6 =>
        bif !y6.fst then
          some (false, ())
        else ref09_named_l4 n s0 j1 j2 i0 (IntKind.wrap IntKind.i64 (j5 + 1))
      else none
    else none
  else some (true, ()) := by kernel_rfl
theorem ref09_named_e (n : Nat) (s0 : ByteArray) (j1 : Int) (j2 : Int) : ref09_named_v n s0 j1 j2 =
  bif decide ((↑(ByteArray.size s0) : Int) < 1) then
    some (false, ())
  else bif decide ((↑(ByteArray.size s0) : Int) > 32) then
    some (false, ())
  else if 0 < (↑(ByteArray.size s0) : Int) then
    obind (ref09_letter_v n (bt s0 0) j1 j2) fun y3 =>
    bif !y3.fst then
      some (false, ())
    else ref09_named_l4 n s0 j1 j2 n 0
  else none := by kernel_rfl
theorem ref09_named_c (n : Nat) (s0 : ByteArray) (j1 : Int) (j2 : Int) (y : Bool × Unit) (h : ref09_named_v n s0 j1 j2 = some y) : Contract Tryd.prog 38 [AV.dv (DV.val (Value.string s0)), AV.dv (DV.val (Value.int IntKind.u8 j1)), AV.dv (DV.val (Value.int IntKind.u8 j2))] [] (OSh.enc (OSh.plain (.b) []) y) :=
  auto_okM tm_std (with_ok mixed (by kernel_rfl) (ref09_named_σok n) n 0 [1000042, 1000043, 1000044, 1000045, 1000046, 1000059, 1000067]) (with_pick mixed (by kernel_rfl) (ref09_named_σok n) n 0 [1000042, 1000043, 1000044, 1000045, 1000046, 1000059, 1000067]) mixed Tryd.func38 (by decide) (o := (OSh.plain (.b) [])) h
/-! ref09_Digits: function 39 -/
def ref09_Digits_lv : Live := [(3, [0, 3, 4], [1000, 1001, 1002, 1003])]
noncomputable def ref09_Digits_σ (n : Nat) : Spec := Spec.none
theorem ref09_Digits_σok (n : Nat) : SpecOk Tryd.prog (ref09_Digits_σ n) := (SpecOk.none _)
noncomputable def ref09_Digits_Φ (n : Nat) : Orc := with_ Tryd.prog (ref09_Digits_σ n) [] n 0 [1000042, 1000043, 1000044, 1000045, 1000046, 1000059, 1000067]
noncomputable def ref09_Digits_v (n : Nat) (j0 : Int) : Option (ByteArray × Unit) :=
  DM.denFn tm (ref09_Digits_Φ n) ref09_Digits_lv n Tryd.f39 false [AV.dv (DV.val (Value.int IntKind.i64 j0))] [] (OSh.chk (OSh.plain (.s) []))
noncomputable def ref09_Digits_l3 (n : Nat) (j0 : Int) (i0 : Nat) (s1 : ByteArray) (j2 : Int) : Option (ByteArray × Unit) :=
  DM.loopFn tm (ref09_Digits_Φ n) ref09_Digits_lv n Tryd.f39 false [] (OSh.chk (OSh.plain (.s) [])) 3 [] i0 (St.mk [AV.dv (DV.val (Value.int IntKind.i64 j0)), AV.junk, AV.junk, AV.dv (DV.val (Value.string s1)), AV.dv (DV.val (Value.int IntKind.i64 j2)), AV.junk, AV.junk, AV.junk, AV.junk, AV.junk, AV.junk, AV.junk, AV.junk, AV.junk, AV.junk, AV.junk, AV.junk, AV.junk, AV.junk, AV.junk, AV.junk, AV.junk, AV.junk, AV.junk, AV.junk, AV.junk, AV.junk, AV.junk, AV.junk, AV.junk, AV.junk, AV.junk, AV.junk] [])
theorem ref09_Digits_s3 (n : Nat) (j0 : Int) (i0 : Nat) (s1 : ByteArray) (j2 : Int) : ref09_Digits_l3 n j0 (i0 + 1) s1 j2 =
  bif j2 != 0 then
    bif decide (Int.tmod j2 10 < 0) then
      if ByteArray.size (bytesOf [[DV.val (Value.int IntKind.u8 (IntKind.wrap IntKind.u8 (IntKind.wrap IntKind.i64 (48 + IntKind.wrap IntKind.i64 (0 - Int.tmod j2 10)))))]]) + ByteArray.size s1 < 4611686018427387904 then
        ref09_Digits_l3 n j0 i0 (bytesOf [[DV.val (Value.int IntKind.u8 (IntKind.wrap IntKind.u8 (IntKind.wrap IntKind.i64 (48 + IntKind.wrap IntKind.i64 (0 - Int.tmod j2 10)))))]] ++ s1) (IntKind.wrap IntKind.i64 (Int.tdiv j2 10))
      else none
    else if ByteArray.size (bytesOf [[DV.val (Value.int IntKind.u8 (IntKind.wrap IntKind.u8 (IntKind.wrap IntKind.i64 (48 + Int.tmod j2 10))))]]) + ByteArray.size s1 < 4611686018427387904 then
      ref09_Digits_l3 n j0 i0 (bytesOf [[DV.val (Value.int IntKind.u8 (IntKind.wrap IntKind.u8 (IntKind.wrap IntKind.i64 (48 + Int.tmod j2 10))))]] ++ s1) (IntKind.wrap IntKind.i64 (Int.tdiv j2 10))
    else none
  else bif s1 == ByteArray.mk #[] then
    bif decide (Int.tmod j2 10 < 0) then
      if ByteArray.size (bytesOf [[DV.val (Value.int IntKind.u8 (IntKind.wrap IntKind.u8 (IntKind.wrap IntKind.i64 (48 + IntKind.wrap IntKind.i64 (0 - Int.tmod j2 10)))))]]) + ByteArray.size s1 < 4611686018427387904 then
        ref09_Digits_l3 n j0 i0 (bytesOf [[DV.val (Value.int IntKind.u8 (IntKind.wrap IntKind.u8 (IntKind.wrap IntKind.i64 (48 + IntKind.wrap IntKind.i64 (0 - Int.tmod j2 10)))))]] ++ s1) (IntKind.wrap IntKind.i64 (Int.tdiv j2 10))
      else none
    else if ByteArray.size (bytesOf [[DV.val (Value.int IntKind.u8 (IntKind.wrap IntKind.u8 (IntKind.wrap IntKind.i64 (48 + Int.tmod j2 10))))]]) + ByteArray.size s1 < 4611686018427387904 then
      ref09_Digits_l3 n j0 i0 (bytesOf [[DV.val (Value.int IntKind.u8 (IntKind.wrap IntKind.u8 (IntKind.wrap IntKind.i64 (48 + Int.tmod j2 10))))]] ++ s1) (IntKind.wrap IntKind.i64 (Int.tdiv j2 10))
    else none
  else bif decide (j0 < 0) then
    if 1 + ByteArray.size s1 < 4611686018427387904 then
      some (ByteArray.mk #[45] ++ s1, ())
    else none
  else some (s1, ()) := by kernel_rfl
theorem ref09_Digits_e (n : Nat) (j0 : Int) : ref09_Digits_v n j0 =
  ref09_Digits_l3 n j0 n (ByteArray.mk #[]) j0 := by kernel_rfl
theorem ref09_Digits_c (n : Nat) (j0 : Int) (y : ByteArray × Unit) (h : ref09_Digits_v n j0 = some y) : Contract Tryd.prog 39 [AV.dv (DV.val (Value.int IntKind.i64 j0))] [] (OSh.enc (OSh.plain (.s) []) y) :=
  auto_okM tm_std (with_ok mixed (by kernel_rfl) (ref09_Digits_σok n) n 0 [1000042, 1000043, 1000044, 1000045, 1000046, 1000059, 1000067]) (with_pick mixed (by kernel_rfl) (ref09_Digits_σok n) n 0 [1000042, 1000043, 1000044, 1000045, 1000046, 1000059, 1000067]) mixed Tryd.func39 (by decide) (o := (OSh.plain (.s) [])) h
/-! ref07_Plain: function 40 -/
def ref07_Plain_lv : Live := []
noncomputable def ref07_Plain_σ (n : Nat) : Spec := Spec.none
theorem ref07_Plain_σok (n : Nat) : SpecOk Tryd.prog (ref07_Plain_σ n) := (SpecOk.none _)
noncomputable def ref07_Plain_Φ (n : Nat) : Orc := with_ Tryd.prog (ref07_Plain_σ n) [] n 0 [1000042, 1000043, 1000044, 1000045, 1000046, 1000059, 1000067]
noncomputable def ref07_Plain_v (n : Nat) (j0 : Int) : Option (Bool × Unit) :=
  DM.denFn tm (ref07_Plain_Φ n) ref07_Plain_lv n Tryd.f40 false [AV.dv (DV.val (Value.int IntKind.u8 j0))] [] (OSh.chk (OSh.plain (.b) []))
theorem ref07_Plain_e (n : Nat) (j0 : Int) : ref07_Plain_v n j0 =
  bif decide (j0 ≥ 32) then
    bif decide (j0 ≤ 126) then
      bif j0 != 34 then
        some (j0 != 92, ())
      else some (false, ())
    else some (false, ())
  else some (false, ()) := by kernel_rfl
theorem ref07_Plain_c (n : Nat) (j0 : Int) (y : Bool × Unit) (h : ref07_Plain_v n j0 = some y) : Contract Tryd.prog 40 [AV.dv (DV.val (Value.int IntKind.u8 j0))] [] (OSh.enc (OSh.plain (.b) []) y) :=
  auto_okM tm_std (with_ok mixed (by kernel_rfl) (ref07_Plain_σok n) n 0 [1000042, 1000043, 1000044, 1000045, 1000046, 1000059, 1000067]) (with_pick mixed (by kernel_rfl) (ref07_Plain_σok n) n 0 [1000042, 1000043, 1000044, 1000045, 1000046, 1000059, 1000067]) mixed Tryd.func40 (by decide) (o := (OSh.plain (.b) [])) h
/-! ref08_Kept: function 18 -/
def ref08_Kept_lv : Live := []
noncomputable def ref08_Kept_σ (n : Nat) : Spec := Spec.none
theorem ref08_Kept_σok (n : Nat) : SpecOk Tryd.prog (ref08_Kept_σ n) := (SpecOk.none _)
noncomputable def ref08_Kept_Φ (n : Nat) : Orc := with_ Tryd.prog (ref08_Kept_σ n) [] n 0 [1000042, 1000043, 1000044, 1000045, 1000046, 1000059, 1000067]
noncomputable def ref08_Kept_v (n : Nat) (s0 : ByteArray) : Option (Bool × Unit) :=
  DM.denFn tm (ref08_Kept_Φ n) ref08_Kept_lv n Tryd.f18 false [AV.dv (DV.val (Value.string s0))] [] (OSh.chk (OSh.plain (.b) []))
theorem ref08_Kept_e (n : Nat) (s0 : ByteArray) : ref08_Kept_v n s0 =
  bif s0 == ByteArray.mk #[115, 97, 121, 115] then
    some (true, ())
  else bif s0 == ByteArray.mk #[116, 111] then
    some (true, ())
  else some (s0 == ByteArray.mk #[97, 116], ()) := by kernel_rfl
theorem ref08_Kept_c (n : Nat) (s0 : ByteArray) (y : Bool × Unit) (h : ref08_Kept_v n s0 = some y) : Contract Tryd.prog 18 [AV.dv (DV.val (Value.string s0))] [] (OSh.enc (OSh.plain (.b) []) y) :=
  auto_okM tm_std (with_ok mixed (by kernel_rfl) (ref08_Kept_σok n) n 0 [1000042, 1000043, 1000044, 1000045, 1000046, 1000059, 1000067]) (with_pick mixed (by kernel_rfl) (ref08_Kept_σok n) n 0 [1000042, 1000043, 1000044, 1000045, 1000046, 1000059, 1000067]) mixed Tryd.func18 (by decide) (o := (OSh.plain (.b) [])) h
/-! ref09_Word: function 41 -/
def ref09_Word_lv : Live := []
noncomputable def ref09_Word_σ (n : Nat) : Spec := (inst 38 [.s, .i IntKind.u8, .i IntKind.u8] [] (OSh.plain (.b) []) (fun x e => ref09_named_v n x.1 x.2.1 x.2.2.1) (inst 18 [.s] [] (OSh.plain (.b) []) (fun x e => ref08_Kept_v n x.1) Spec.none))
theorem ref09_Word_σok (n : Nat) : SpecOk Tryd.prog (ref09_Word_σ n) := (inst_ok (fun x e y h => ref09_named_c n x.1 x.2.1 x.2.2.1 y h) (inst_ok (fun x e y h => ref08_Kept_c n x.1 y h) (SpecOk.none _)))
noncomputable def ref09_Word_Φ (n : Nat) : Orc := with_ Tryd.prog (ref09_Word_σ n) [] n 0 [1000042, 1000043, 1000044, 1000045, 1000046, 1000059, 1000067]
noncomputable def ref09_Word_v (n : Nat) (s0 : ByteArray) : Option (Bool × Unit) :=
  DM.denFn tm (ref09_Word_Φ n) ref09_Word_lv n Tryd.f41 false [AV.dv (DV.val (Value.string s0))] [] (OSh.chk (OSh.plain (.b) []))
theorem ref09_Word_e (n : Nat) (s0 : ByteArray) : ref09_Word_v n s0 =
  obind (ref09_named_v n s0 97 122) fun y1 =>
  bif y1.fst then
    obind (ref08_Kept_v n s0) fun y2 =>
    some (!y2.fst, ())
  else some (false, ()) := by kernel_rfl
theorem ref09_Word_c (n : Nat) (s0 : ByteArray) (y : Bool × Unit) (h : ref09_Word_v n s0 = some y) : Contract Tryd.prog 41 [AV.dv (DV.val (Value.string s0))] [] (OSh.enc (OSh.plain (.b) []) y) :=
  auto_okM tm_std (with_ok mixed (by kernel_rfl) (ref09_Word_σok n) n 0 [1000042, 1000043, 1000044, 1000045, 1000046, 1000059, 1000067]) (with_pick mixed (by kernel_rfl) (ref09_Word_σok n) n 0 [1000042, 1000043, 1000044, 1000045, 1000046, 1000059, 1000067]) mixed Tryd.func41 (by decide) (o := (OSh.plain (.b) [])) h
/-! ref09_Term: function 14 -/
def ref09_Term_lv : Live := [(13, [4, 5], [4, 1000, 1001, 1002, 1003])]
noncomputable def ref09_Term_σ (n : Nat) : Spec := (inst 38 [.s, .i IntKind.u8, .i IntKind.u8] [] (OSh.plain (.b) []) (fun x e => ref09_named_v n x.1 x.2.1 x.2.2.1) (inst 39 [.i IntKind.i64] [] (OSh.plain (.s) []) (fun x e => ref09_Digits_v n x.1) (inst 40 [.i IntKind.u8] [] (OSh.plain (.b) []) (fun x e => ref07_Plain_v n x.1) (inst 41 [.s] [] (OSh.plain (.b) []) (fun x e => ref09_Word_v n x.1) Spec.none))))
theorem ref09_Term_σok (n : Nat) : SpecOk Tryd.prog (ref09_Term_σ n) := (inst_ok (fun x e y h => ref09_named_c n x.1 x.2.1 x.2.2.1 y h) (inst_ok (fun x e y h => ref09_Digits_c n x.1 y h) (inst_ok (fun x e y h => ref07_Plain_c n x.1 y h) (inst_ok (fun x e y h => ref09_Word_c n x.1 y h) (SpecOk.none _)))))
noncomputable def ref09_Term_Φ (n : Nat) : Orc := with_ Tryd.prog (ref09_Term_σ n) [] n 0 [1000042, 1000043, 1000044, 1000045, 1000046, 1000059, 1000067]
noncomputable def ref09_Term_v (n : Nat) (s0 : ByteArray) (b1 : Bool) (j2 : Int) (s3 : ByteArray) : Option ((ByteArray × Int × Unit) × Unit) :=
  DM.denFn tm (ref09_Term_Φ n) ref09_Term_lv n Tryd.f14 false [AV.agg [AV.dv (DV.val (Value.string s0)), AV.dv (DV.val (Value.bool b1)), AV.dv (DV.val (Value.int IntKind.i64 j2)), AV.dv (DV.val (Value.string s3))]] [] (OSh.chk (OSh.plain (.tup [.s, .i IntKind.i64]) []))
noncomputable def ref09_Term_l13 (n : Nat) (s0 : ByteArray) (b1 : Bool) (j2 : Int) (s3 : ByteArray) (i0 : Nat) (j8 : Int) : Option ((ByteArray × Int × Unit) × Unit) :=
  DM.loopFn tm (ref09_Term_Φ n) ref09_Term_lv n Tryd.f14 false [] (OSh.chk (OSh.plain (.tup [.s, .i IntKind.i64]) [])) 13 [] i0 (St.mk [AV.junk, AV.junk, AV.junk, AV.junk, AV.pl 4 0, AV.dv (DV.val (Value.int IntKind.i64 j8)), AV.junk, AV.junk, AV.junk, AV.junk, AV.junk, AV.junk, AV.junk, AV.junk, AV.junk, AV.junk, AV.junk, AV.junk, AV.junk, AV.junk, AV.junk, AV.junk, AV.junk, AV.junk, AV.junk, AV.junk, AV.junk, AV.junk, AV.junk, AV.junk, AV.junk, AV.junk, AV.junk, AV.junk, AV.junk, AV.junk, AV.junk, AV.junk, AV.junk, AV.junk, AV.junk, AV.junk, AV.junk, AV.junk, AV.junk, AV.junk, AV.junk, AV.junk, AV.junk, AV.junk, AV.junk, AV.junk, AV.junk, AV.junk, AV.junk, AV.junk, AV.junk, AV.junk, AV.junk, AV.junk, AV.junk, AV.junk, AV.junk, AV.junk, AV.junk, AV.junk, AV.junk, AV.junk] [(4, [AV.dv (DV.val (Value.bool b1)), AV.dv (DV.val (Value.int IntKind.i64 j2)), AV.dv (DV.val (Value.string s3))])])
theorem ref09_Term_s13 (n : Nat) (s0 : ByteArray) (b1 : Bool) (j2 : Int) (s3 : ByteArray) (i0 : Nat) (j8 : Int) : ref09_Term_l13 n s0 b1 j2 s3 (i0 + 1) j8 =
  bif decide (j8 < (↑(ByteArray.size s3) : Int)) then
    if 0 ≤ j8 then
      if j8 < (↑(ByteArray.size s3) : Int) then
        obind (ref07_Plain_v n (bt s3 j8)) fun y9 =>
        bif !y9.fst then
          some ((ByteArray.mk #[], (100, ())), ())
        else ref09_Term_l13 n s0 b1 j2 s3 i0 (IntKind.wrap IntKind.i64 (j8 + 1))
      else none
    else none
  else obind (ref09_Word_v n s3) fun y10 =>
  bif y10.fst then
    some ((s3, (0, ())), ())
  else if 1 + ByteArray.size s3 < 4611686018427387904 then
    if ByteArray.size (ByteArray.mk #[34] ++ s3) + 1 < 4611686018427387904 then
      some ((ByteArray.mk #[34] ++ s3 ++ ByteArray.mk #[34], (0, ())), ())
    else none
  else none := by kernel_rfl
theorem ref09_Term_e (n : Nat) (s0 : ByteArray) (b1 : Bool) (j2 : Int) (s3 : ByteArray) : ref09_Term_v n s0 b1 j2 s3 =
  bif !s0 == ByteArray.mk #[] then
    bif !(b1 == false && (j2 == 0 && (s3 == ByteArray.mk #[] && true))) then
      some ((ByteArray.mk #[], (100, ())), ())
    else obind (ref09_named_v n s0 65 90) fun y4 =>
    bif !y4.fst then
      some ((ByteArray.mk #[], (100, ())), ())
    else some ((s0, (0, ())), ())
  else bif b1 then
    bif !s3 == ByteArray.mk #[] then
      some ((ByteArray.mk #[], (100, ())), ())
    else obind (ref09_Digits_v n j2) fun y5 =>
    some ((y5.fst, (0, ())), ())
  else bif j2 != 0 then
    some ((ByteArray.mk #[], (100, ())), ())
  else bif decide ((↑(ByteArray.size s3) : Int) < 1) then
    some ((ByteArray.mk #[], (100, ())), ())
  else bif decide ((↑(ByteArray.size s3) : Int) > 32) then
    some ((ByteArray.mk #[], (100, ())), ())
  else ref09_Term_l13 n s0 b1 j2 s3 n 0 := by kernel_rfl
theorem ref09_Term_c (n : Nat) (s0 : ByteArray) (b1 : Bool) (j2 : Int) (s3 : ByteArray) (y : (ByteArray × Int × Unit) × Unit) (h : ref09_Term_v n s0 b1 j2 s3 = some y) : Contract Tryd.prog 14 [AV.agg [AV.dv (DV.val (Value.string s0)), AV.dv (DV.val (Value.bool b1)), AV.dv (DV.val (Value.int IntKind.i64 j2)), AV.dv (DV.val (Value.string s3))]] [] (OSh.enc (OSh.plain (.tup [.s, .i IntKind.i64]) []) y) :=
  auto_okM tm_std (with_ok mixed (by kernel_rfl) (ref09_Term_σok n) n 0 [1000042, 1000043, 1000044, 1000045, 1000046, 1000059, 1000067]) (with_pick mixed (by kernel_rfl) (ref09_Term_σok n) n 0 [1000042, 1000043, 1000044, 1000045, 1000046, 1000059, 1000067]) mixed Tryd.func14 (by decide) (o := (OSh.plain (.tup [.s, .i IntKind.i64]) [])) h
/-! ref09_atom: function 48 -/
def ref09_atom_lv : Live := [(5, [1, 6, 7], [1000, 1001, 1002, 1003])]
noncomputable def ref09_atom_σ (n : Nat) : Spec := (inst 41 [.s] [] (OSh.plain (.b) []) (fun x e => ref09_Word_v n x.1) (inst 14 [.agg [.s, .b, .i IntKind.i64, .s]] [] (OSh.plain (.tup [.s, .i IntKind.i64]) []) (fun x e => ref09_Term_v n x.1.1 x.1.2.1 x.1.2.2.1 x.1.2.2.2.1) Spec.none))
theorem ref09_atom_σok (n : Nat) : SpecOk Tryd.prog (ref09_atom_σ n) := (inst_ok (fun x e y h => ref09_Word_c n x.1 y h) (inst_ok (fun x e y h => ref09_Term_c n x.1.1 x.1.2.1 x.1.2.2.1 x.1.2.2.2.1 y h) (SpecOk.none _)))
noncomputable def ref09_atom_Φ (n : Nat) : Orc := with_ Tryd.prog (ref09_atom_σ n) [] n 0 [1000042, 1000043, 1000044, 1000045, 1000046, 1000059, 1000067]
noncomputable def ref09_atom_v (n : Nat) (s0 : ByteArray) (b1 : Bool) (r2 : Rows) : Option ((ByteArray × Bool × Unit) × Unit) :=
  DM.denFn tm (ref09_atom_Φ n) ref09_atom_lv n Tryd.f48 false [AV.dv (DV.val (Value.string s0)), AV.sl b1 [Kd.s, Kd.b, Kd.i IntKind.i64, Kd.s] r2 Right.no] [] (OSh.chk (OSh.plain (.tup [.s, .b]) []))
noncomputable def ref09_atom_l5 (n : Nat) (s0 : ByteArray) (b1 : Bool) (r2 : Rows) (i0 : Nat) (s5 : ByteArray) (j6 : Int) : Option ((ByteArray × Bool × Unit) × Unit) :=
  DM.loopFn tm (ref09_atom_Φ n) ref09_atom_lv n Tryd.f48 false [] (OSh.chk (OSh.plain (.tup [.s, .b]) [])) 5 [] i0 (St.mk [AV.junk, AV.sl b1 [Kd.s, Kd.b, Kd.i IntKind.i64, Kd.s] r2 Right.no, AV.junk, AV.junk, AV.junk, AV.junk, AV.dv (DV.val (Value.string s5)), AV.dv (DV.val (Value.int IntKind.i64 j6)), AV.junk, AV.junk, AV.junk, AV.junk, AV.junk, AV.junk, AV.junk, AV.junk, AV.junk, AV.junk, AV.junk, AV.junk, AV.junk, AV.junk, AV.junk, AV.junk, AV.junk, AV.junk, AV.junk, AV.junk, AV.junk, AV.junk, AV.junk, AV.junk, AV.junk, AV.junk, AV.junk, AV.junk, AV.junk, AV.junk, AV.junk, AV.junk, AV.junk, AV.junk, AV.junk, AV.junk, AV.junk] [])
theorem ref09_atom_s5 (n : Nat) (s0 : ByteArray) (b1 : Bool) (r2 : Rows) (i0 : Nat) (s5 : ByteArray) (j6 : Int) : ref09_atom_l5 n s0 b1 r2 (i0 + 1) s5 j6 =
  bif decide (j6 < (↑(List.length r2) : Int)) then
    if 0 ≤ j6 then
      if j6 < (↑(List.length r2) : Int) then
        obind (ref09_Term_v n (Row.S (List.getD r2 (Int.toNat j6) []) 0) (Row.B (List.getD r2 (Int.toNat j6) []) 1) (Row.I (List.getD r2 (Int.toNat j6) []) 2) (Row.S (List.getD r2 (Int.toNat j6) []) 3)) fun y7 =>
        bif y7.fst.snd.fst != 0 then
          some ((ByteArray.mk #[], (false, ())), ())
        else bif decide (j6 > 0) then
          if ByteArray.size s5 + 2 < 4611686018427387904 then
            if ByteArray.size (s5 ++ ByteArray.mk #[44, 32]) + ByteArray.size y7.fst.fst < 4611686018427387904 then
              ref09_atom_l5 n s0 b1 r2 i0 (s5 ++ ByteArray.mk #[44, 32] ++ y7.fst.fst) (IntKind.wrap IntKind.i64 (j6 + 1))
            else none
          else none
        else if ByteArray.size s5 + ByteArray.size y7.fst.fst < 4611686018427387904 then
          ref09_atom_l5 n s0 b1 r2 i0 (s5 ++ y7.fst.fst) (IntKind.wrap IntKind.i64 (j6 + 1))
        else none
      else none
    else none
  else if ByteArray.size s5 + 1 < 4611686018427387904 then
    some ((s5 ++ ByteArray.mk #[41], (true, ())), ())
  else none := by kernel_rfl
theorem ref09_atom_e (n : Nat) (s0 : ByteArray) (b1 : Bool) (r2 : Rows) : ref09_atom_v n s0 b1 r2 =
  obind (ref09_Word_v n s0) fun y3 =>
  bif !y3.fst then
    some ((ByteArray.mk #[], (false, ())), ())
  else bif decide ((↑(List.length r2) : Int) > 4) then
    some ((ByteArray.mk #[], (false, ())), ())
  else if ByteArray.size s0 + 1 < 4611686018427387904 then
    ref09_atom_l5 n s0 b1 r2 n (s0 ++ ByteArray.mk #[40]) 0
  else none := by kernel_rfl
theorem ref09_atom_c (n : Nat) (s0 : ByteArray) (b1 : Bool) (r2 : Rows) (y : (ByteArray × Bool × Unit) × Unit) (h : ref09_atom_v n s0 b1 r2 = some y) : Contract Tryd.prog 48 [AV.dv (DV.val (Value.string s0)), AV.sl b1 [Kd.s, Kd.b, Kd.i IntKind.i64, Kd.s] r2 Right.no] [] (OSh.enc (OSh.plain (.tup [.s, .b]) []) y) :=
  auto_okM tm_std (with_ok mixed (by kernel_rfl) (ref09_atom_σok n) n 0 [1000042, 1000043, 1000044, 1000045, 1000046, 1000059, 1000067]) (with_pick mixed (by kernel_rfl) (ref09_atom_σok n) n 0 [1000042, 1000043, 1000044, 1000045, 1000046, 1000059, 1000067]) mixed Tryd.func48 (by decide) (o := (OSh.plain (.tup [.s, .b]) [])) h
/-! ref09_none: function 68 -/
def ref09_none_lv : Live := []
noncomputable def ref09_none_σ (n : Nat) : Spec := Spec.none
theorem ref09_none_σok (n : Nat) : SpecOk Tryd.prog (ref09_none_σ n) := (SpecOk.none _)
noncomputable def ref09_none_Φ (n : Nat) : Orc := with_ Tryd.prog (ref09_none_σ n) [] n 0 [1000042, 1000043, 1000044, 1000045, 1000046, 1000059, 1000067]
noncomputable def ref09_none_v (n : Nat) (s0 : ByteArray) (b1 : Bool) (j2 : Int) (s3 : ByteArray) : Option (Bool × Unit) :=
  DM.denFn tm (ref09_none_Φ n) ref09_none_lv n Tryd.f68 false [AV.agg [AV.dv (DV.val (Value.string s0)), AV.dv (DV.val (Value.bool b1)), AV.dv (DV.val (Value.int IntKind.i64 j2)), AV.dv (DV.val (Value.string s3))]] [] (OSh.chk (OSh.plain (.b) []))
theorem ref09_none_e (n : Nat) (s0 : ByteArray) (b1 : Bool) (j2 : Int) (s3 : ByteArray) : ref09_none_v n s0 b1 j2 s3 =
  some (s0 == ByteArray.mk #[] && (b1 == false && (j2 == 0 && (s3 == ByteArray.mk #[] && true))), ()) := by kernel_rfl
theorem ref09_none_c (n : Nat) (s0 : ByteArray) (b1 : Bool) (j2 : Int) (s3 : ByteArray) (y : Bool × Unit) (h : ref09_none_v n s0 b1 j2 s3 = some y) : Contract Tryd.prog 68 [AV.agg [AV.dv (DV.val (Value.string s0)), AV.dv (DV.val (Value.bool b1)), AV.dv (DV.val (Value.int IntKind.i64 j2)), AV.dv (DV.val (Value.string s3))]] [] (OSh.enc (OSh.plain (.b) []) y) :=
  auto_okM tm_std (with_ok mixed (by kernel_rfl) (ref09_none_σok n) n 0 [1000042, 1000043, 1000044, 1000045, 1000046, 1000059, 1000067]) (with_pick mixed (by kernel_rfl) (ref09_none_σok n) n 0 [1000042, 1000043, 1000044, 1000045, 1000046, 1000059, 1000067]) mixed Tryd.func68 (by decide) (o := (OSh.plain (.b) [])) h
/-! ref09_maybe: function 49 -/
def ref09_maybe_lv : Live := []
noncomputable def ref09_maybe_σ (n : Nat) : Spec := (inst 68 [.agg [.s, .b, .i IntKind.i64, .s]] [] (OSh.plain (.b) []) (fun x e => ref09_none_v n x.1.1 x.1.2.1 x.1.2.2.1 x.1.2.2.2.1) (inst 14 [.agg [.s, .b, .i IntKind.i64, .s]] [] (OSh.plain (.tup [.s, .i IntKind.i64]) []) (fun x e => ref09_Term_v n x.1.1 x.1.2.1 x.1.2.2.1 x.1.2.2.2.1) Spec.none))
theorem ref09_maybe_σok (n : Nat) : SpecOk Tryd.prog (ref09_maybe_σ n) := (inst_ok (fun x e y h => ref09_none_c n x.1.1 x.1.2.1 x.1.2.2.1 x.1.2.2.2.1 y h) (inst_ok (fun x e y h => ref09_Term_c n x.1.1 x.1.2.1 x.1.2.2.1 x.1.2.2.2.1 y h) (SpecOk.none _)))
noncomputable def ref09_maybe_Φ (n : Nat) : Orc := with_ Tryd.prog (ref09_maybe_σ n) [] n 0 [1000042, 1000043, 1000044, 1000045, 1000046, 1000059, 1000067]
noncomputable def ref09_maybe_v (n : Nat) (s0 : ByteArray) (s1 : ByteArray) (b2 : Bool) (j3 : Int) (s4 : ByteArray) (s5 : ByteArray) : Option ((ByteArray × Bool × Unit) × Unit) :=
  DM.denFn tm (ref09_maybe_Φ n) ref09_maybe_lv n Tryd.f49 false [AV.dv (DV.val (Value.string s0)), AV.agg [AV.dv (DV.val (Value.string s1)), AV.dv (DV.val (Value.bool b2)), AV.dv (DV.val (Value.int IntKind.i64 j3)), AV.dv (DV.val (Value.string s4))], AV.dv (DV.val (Value.string s5))] [] (OSh.chk (OSh.plain (.tup [.s, .b]) []))
theorem ref09_maybe_e (n : Nat) (s0 : ByteArray) (s1 : ByteArray) (b2 : Bool) (j3 : Int) (s4 : ByteArray) (s5 : ByteArray) : ref09_maybe_v n s0 s1 b2 j3 s4 s5 =
  obind (ref09_none_v n s1 b2 j3 s4) fun y6 =>
  bif y6.fst then
    some ((ByteArray.mk #[], (true, ())), ())
  else obind (ref09_Term_v n s1 b2 j3 s4) fun y7 =>
  if ByteArray.size s0 + ByteArray.size y7.fst.fst < 4611686018427387904 then
    if ByteArray.size (s0 ++ y7.fst.fst) + ByteArray.size s5 < 4611686018427387904 then
      some ((s0 ++ y7.fst.fst ++ s5, (y7.fst.snd.fst == 0, ())), ())
    else none
  else none := by kernel_rfl
theorem ref09_maybe_c (n : Nat) (s0 : ByteArray) (s1 : ByteArray) (b2 : Bool) (j3 : Int) (s4 : ByteArray) (s5 : ByteArray) (y : (ByteArray × Bool × Unit) × Unit) (h : ref09_maybe_v n s0 s1 b2 j3 s4 s5 = some y) : Contract Tryd.prog 49 [AV.dv (DV.val (Value.string s0)), AV.agg [AV.dv (DV.val (Value.string s1)), AV.dv (DV.val (Value.bool b2)), AV.dv (DV.val (Value.int IntKind.i64 j3)), AV.dv (DV.val (Value.string s4))], AV.dv (DV.val (Value.string s5))] [] (OSh.enc (OSh.plain (.tup [.s, .b]) []) y) :=
  auto_okM tm_std (with_ok mixed (by kernel_rfl) (ref09_maybe_σok n) n 0 [1000042, 1000043, 1000044, 1000045, 1000046, 1000059, 1000067]) (with_pick mixed (by kernel_rfl) (ref09_maybe_σok n) n 0 [1000042, 1000043, 1000044, 1000045, 1000046, 1000059, 1000067]) mixed Tryd.func49 (by decide) (o := (OSh.plain (.tup [.s, .b]) [])) h
/-! ref09_Rule: function 23 -/
def ref09_Rule_lv : Live := [(10, [1, 10, 11], [1, 1000, 1001, 1002, 1003])]
noncomputable def ref09_Rule_σ (n : Nat) : Spec := (inst 14 [.agg [.s, .b, .i IntKind.i64, .s]] [] (OSh.plain (.tup [.s, .i IntKind.i64]) []) (fun x e => ref09_Term_v n x.1.1 x.1.2.1 x.1.2.2.1 x.1.2.2.2.1) (inst 48 [.s, .sl [Kd.s, Kd.b, Kd.i IntKind.i64, Kd.s]] [] (OSh.plain (.tup [.s, .b]) []) (fun x e => ref09_atom_v n x.1 x.2.1.1 x.2.1.2) (inst 49 [.s, .agg [.s, .b, .i IntKind.i64, .s], .s] [] (OSh.plain (.tup [.s, .b]) []) (fun x e => ref09_maybe_v n x.1 x.2.1.1 x.2.1.2.1 x.2.1.2.2.1 x.2.1.2.2.2.1 x.2.2.1) Spec.none)))
theorem ref09_Rule_σok (n : Nat) : SpecOk Tryd.prog (ref09_Rule_σ n) := (inst_ok (fun x e y h => ref09_Term_c n x.1.1 x.1.2.1 x.1.2.2.1 x.1.2.2.2.1 y h) (inst_ok (fun x e y h => ref09_atom_c n x.1 x.2.1.1 x.2.1.2 y h) (inst_ok (fun x e y h => ref09_maybe_c n x.1 x.2.1.1 x.2.1.2.1 x.2.1.2.2.1 x.2.1.2.2.2.1 x.2.2.1 y h) (SpecOk.none _))))
noncomputable def ref09_Rule_Φ (n : Nat) : Orc := with_ Tryd.prog (ref09_Rule_σ n) [] n 0 [1000042, 1000043, 1000044, 1000045, 1000046, 1000059, 1000067]
noncomputable def ref09_Rule_v (n : Nat) (s0 : ByteArray) (b1 : Bool) (j2 : Int) (s3 : ByteArray) (s4 : ByteArray) (b5 : Bool) (r6 : Rows) (s7 : ByteArray) (b8 : Bool) (j9 : Int) (s10 : ByteArray) (b11 : Bool) (r12 : Rows) : Option ((ByteArray × Int × Unit) × Unit) :=
  DM.denFn tm (ref09_Rule_Φ n) ref09_Rule_lv n Tryd.f23 false [AV.agg [AV.dv (DV.val (Value.string s0)), AV.dv (DV.val (Value.bool b1)), AV.dv (DV.val (Value.int IntKind.i64 j2)), AV.dv (DV.val (Value.string s3)), AV.dv (DV.val (Value.string s4)), AV.sl b5 [Kd.s, Kd.b, Kd.i IntKind.i64, Kd.s] r6 Right.no, AV.dv (DV.val (Value.string s7)), AV.dv (DV.val (Value.bool b8)), AV.dv (DV.val (Value.int IntKind.i64 j9)), AV.dv (DV.val (Value.string s10)), AV.sl b11 [Kd.s, Kd.b, Kd.i IntKind.i64, Kd.s, Kd.s, Kd.sl [Kd.s, Kd.b, Kd.i IntKind.i64, Kd.s], Kd.s, Kd.b, Kd.i IntKind.i64, Kd.s] r12 Right.no]] [] (OSh.chk (OSh.plain (.tup [.s, .i IntKind.i64]) []))
noncomputable def ref09_Rule_l10 (n : Nat) (s0 : ByteArray) (b1 : Bool) (j2 : Int) (s3 : ByteArray) (s4 : ByteArray) (b5 : Bool) (r6 : Rows) (s7 : ByteArray) (b8 : Bool) (j9 : Int) (s10 : ByteArray) (b11 : Bool) (r12 : Rows) (i0 : Nat) (s16 : ByteArray) (j20 : Int) : Option ((ByteArray × Int × Unit) × Unit) :=
  DM.loopFn tm (ref09_Rule_Φ n) ref09_Rule_lv n Tryd.f23 false [] (OSh.chk (OSh.plain (.tup [.s, .i IntKind.i64]) [])) 10 [] i0 (St.mk [AV.junk, AV.pl 1 0, AV.junk, AV.junk, AV.junk, AV.junk, AV.junk, AV.junk, AV.junk, AV.junk, AV.dv (DV.val (Value.string s16)), AV.dv (DV.val (Value.int IntKind.i64 j20)), AV.junk, AV.junk, AV.junk, AV.junk, AV.junk, AV.junk, AV.junk, AV.junk, AV.junk, AV.junk, AV.junk, AV.junk, AV.junk, AV.junk, AV.junk, AV.junk, AV.junk, AV.junk, AV.junk, AV.junk, AV.junk, AV.junk, AV.junk, AV.junk, AV.junk, AV.junk, AV.junk, AV.junk, AV.junk, AV.junk, AV.junk, AV.junk, AV.junk, AV.junk, AV.junk, AV.junk, AV.junk, AV.junk, AV.junk, AV.junk, AV.junk, AV.junk, AV.junk, AV.junk, AV.junk, AV.junk, AV.junk, AV.junk, AV.junk, AV.junk, AV.junk, AV.junk, AV.junk, AV.junk, AV.junk, AV.junk, AV.junk, AV.junk, AV.junk, AV.junk, AV.junk, AV.junk, AV.junk, AV.junk, AV.junk, AV.junk, AV.junk, AV.junk, AV.junk, AV.junk, AV.junk, AV.junk, AV.junk, AV.junk, AV.junk, AV.junk, AV.junk, AV.junk, AV.junk, AV.junk, AV.junk, AV.junk, AV.junk, AV.junk, AV.junk, AV.junk, AV.junk, AV.junk, AV.junk, AV.junk, AV.junk, AV.junk, AV.junk, AV.junk, AV.junk, AV.junk, AV.junk, AV.junk, AV.junk, AV.junk, AV.junk, AV.junk, AV.junk, AV.junk, AV.junk, AV.junk, AV.junk, AV.junk, AV.junk, AV.junk, AV.junk, AV.junk, AV.junk, AV.junk, AV.junk, AV.junk, AV.junk, AV.junk, AV.junk] [(1, [AV.dv (DV.val (Value.string s0)), AV.dv (DV.val (Value.bool b1)), AV.dv (DV.val (Value.int IntKind.i64 j2)), AV.dv (DV.val (Value.string s3)), AV.dv (DV.val (Value.string s4)), AV.sl b5 [Kd.s, Kd.b, Kd.i IntKind.i64, Kd.s] r6 Right.no, AV.dv (DV.val (Value.string s7)), AV.dv (DV.val (Value.bool b8)), AV.dv (DV.val (Value.int IntKind.i64 j9)), AV.dv (DV.val (Value.string s10)), AV.sl b11 [Kd.s, Kd.b, Kd.i IntKind.i64, Kd.s, Kd.s, Kd.sl [Kd.s, Kd.b, Kd.i IntKind.i64, Kd.s], Kd.s, Kd.b, Kd.i IntKind.i64, Kd.s] r12 Right.no])])
theorem ref09_Rule_s10 (n : Nat) (s0 : ByteArray) (b1 : Bool) (j2 : Int) (s3 : ByteArray) (s4 : ByteArray) (b5 : Bool) (r6 : Rows) (s7 : ByteArray) (b8 : Bool) (j9 : Int) (s10 : ByteArray) (b11 : Bool) (r12 : Rows) (i0 : Nat) (s16 : ByteArray) (j20 : Int) : ref09_Rule_l10 n s0 b1 j2 s3 s4 b5 r6 s7 b8 j9 s10 b11 r12 (i0 + 1) s16 j20 =
  bif decide (j20 < (↑(List.length r12) : Int)) then
    if 0 ≤ j20 then
      if j20 < (↑(List.length r12) : Int) then
        obind (ref09_maybe_v n (ByteArray.mk #[]) (Row.S (List.getD r12 (Int.toNat j20) []) 0) (Row.B (List.getD r12 (Int.toNat j20) []) 1) (Row.I (List.getD r12 (Int.toNat j20) []) 2) (Row.S (List.getD r12 (Int.toNat j20) []) 3) (ByteArray.mk #[32, 115, 97, 121, 115, 32])) fun y21 =>
        if 0 ≤ j20 then
          if j20 < (↑(List.length r12) : Int) then
            if 0 ≤ j20 then
              if j20 < (↑(List.length r12) : Int) then
                obind (ref09_atom_v n (Row.S (List.getD r12 (Int.toNat j20) []) 4) (Row.N (List.getD r12 (Int.toNat j20) []) 5) (Row.R (List.getD r12 (Int.toNat j20) []) 5)) fun y22 =>
                if 0 ≤ j20 then
                  if j20 < (↑(List.length r12) : Int) then
                    obind (ref09_maybe_v n (ByteArray.mk #[32, 97, 116, 32]) (Row.S (List.getD r12 (Int.toNat j20) []) 6) (Row.B (List.getD r12 (Int.toNat j20) []) 7) (Row.I (List.getD r12 (Int.toNat j20) []) 8) (Row.S (List.getD r12 (Int.toNat j20) []) 9) (ByteArray.mk #[])) fun y23 =>
                    bif !y21.fst.snd.fst then
                      some ((ByteArray.mk #[], (100, ())), ())
                    else bif !y22.fst.snd.fst then
                      some ((ByteArray.mk #[], (100, ())), ())
                    else bif !y23.fst.snd.fst then
                      some ((ByteArray.mk #[], (100, ())), ())
                    else bif decide (j20 > 0) then
                      if ByteArray.size s16 + 2 < 4611686018427387904 then
                        if ByteArray.size y21.fst.fst + ByteArray.size y22.fst.fst < 4611686018427387904 then
                          if ByteArray.size (y21.fst.fst ++ y22.fst.fst) + ByteArray.size y23.fst.fst < 4611686018427387904 then
                            if ByteArray.size (s16 ++ ByteArray.mk #[44, 32]) + ByteArray.size (y21.fst.fst ++ y22.fst.fst ++ y23.fst.fst) < 4611686018427387904 then
                              ref09_Rule_l10 n s0 b1 j2 s3 s4 b5 r6 s7 b8 j9 s10 b11 r12 i0 (s16 ++ ByteArray.mk #[44, 32] ++ (y21.fst.fst ++ y22.fst.fst ++ y23.fst.fst)) (IntKind.wrap IntKind.i64 (j20 + 1))
                            else none
                          else none
                        else none
                      else none
                    else if ByteArray.size y21.fst.fst + ByteArray.size y22.fst.fst < 4611686018427387904 then
                      if ByteArray.size (y21.fst.fst ++ y22.fst.fst) + ByteArray.size y23.fst.fst < 4611686018427387904 then
                        if ByteArray.size s16 + ByteArray.size (y21.fst.fst ++ y22.fst.fst ++ y23.fst.fst) < 4611686018427387904 then
                          ref09_Rule_l10 n s0 b1 j2 s3 s4 b5 r6 s7 b8 j9 s10 b11 r12 i0 (s16 ++ (y21.fst.fst ++ y22.fst.fst ++ y23.fst.fst)) (IntKind.wrap IntKind.i64 (j20 + 1))
                        else none
                      else none
                    else none
                  else none
                else none
              else none
            else none
          else none
        else none
      else none
    else none
  else if ByteArray.size s16 + 1 < 4611686018427387904 then
    some ((s16 ++ ByteArray.mk #[46], (0, ())), ())
  else none := by kernel_rfl
theorem ref09_Rule_e (n : Nat) (s0 : ByteArray) (b1 : Bool) (j2 : Int) (s3 : ByteArray) (s4 : ByteArray) (b5 : Bool) (r6 : Rows) (s7 : ByteArray) (b8 : Bool) (j9 : Int) (s10 : ByteArray) (b11 : Bool) (r12 : Rows) : ref09_Rule_v n s0 b1 j2 s3 s4 b5 r6 s7 b8 j9 s10 b11 r12 =
  bif decide ((↑(List.length r12) : Int) < 1) then
    some ((ByteArray.mk #[], (100, ())), ())
  else bif decide ((↑(List.length r12) : Int) > 4) then
    some ((ByteArray.mk #[], (100, ())), ())
  else obind (ref09_Term_v n s0 b1 j2 s3) fun y13 =>
  obind (ref09_atom_v n s4 b5 r6) fun y14 =>
  obind (ref09_maybe_v n (ByteArray.mk #[32, 116, 111, 32]) s7 b8 j9 s10 (ByteArray.mk #[])) fun y15 =>
  bif y13.fst.snd.fst != 0 then
    some ((ByteArray.mk #[], (100, ())), ())
  else bif !y14.fst.snd.fst then
    some ((ByteArray.mk #[], (100, ())), ())
  else bif !y15.fst.snd.fst then
    some ((ByteArray.mk #[], (100, ())), ())
  else if ByteArray.size y13.fst.fst + 2 < 4611686018427387904 then
    if ByteArray.size (y13.fst.fst ++ ByteArray.mk #[58, 32]) + ByteArray.size y14.fst.fst < 4611686018427387904 then
      if ByteArray.size (y13.fst.fst ++ ByteArray.mk #[58, 32] ++ y14.fst.fst) + ByteArray.size y15.fst.fst < 4611686018427387904 then
        if ByteArray.size (y13.fst.fst ++ ByteArray.mk #[58, 32] ++ y14.fst.fst ++ y15.fst.fst) + 4 < 4611686018427387904 then
          ref09_Rule_l10 n s0 b1 j2 s3 s4 b5 r6 s7 b8 j9 s10 b11 r12 n (y13.fst.fst ++ ByteArray.mk #[58, 32] ++ y14.fst.fst ++ y15.fst.fst ++ ByteArray.mk #[32, 58, 45, 32]) 0
        else none
      else none
    else none
  else none := by kernel_rfl
theorem ref09_Rule_c (n : Nat) (s0 : ByteArray) (b1 : Bool) (j2 : Int) (s3 : ByteArray) (s4 : ByteArray) (b5 : Bool) (r6 : Rows) (s7 : ByteArray) (b8 : Bool) (j9 : Int) (s10 : ByteArray) (b11 : Bool) (r12 : Rows) (y : (ByteArray × Int × Unit) × Unit) (h : ref09_Rule_v n s0 b1 j2 s3 s4 b5 r6 s7 b8 j9 s10 b11 r12 = some y) : Contract Tryd.prog 23 [AV.agg [AV.dv (DV.val (Value.string s0)), AV.dv (DV.val (Value.bool b1)), AV.dv (DV.val (Value.int IntKind.i64 j2)), AV.dv (DV.val (Value.string s3)), AV.dv (DV.val (Value.string s4)), AV.sl b5 [Kd.s, Kd.b, Kd.i IntKind.i64, Kd.s] r6 Right.no, AV.dv (DV.val (Value.string s7)), AV.dv (DV.val (Value.bool b8)), AV.dv (DV.val (Value.int IntKind.i64 j9)), AV.dv (DV.val (Value.string s10)), AV.sl b11 [Kd.s, Kd.b, Kd.i IntKind.i64, Kd.s, Kd.s, Kd.sl [Kd.s, Kd.b, Kd.i IntKind.i64, Kd.s], Kd.s, Kd.b, Kd.i IntKind.i64, Kd.s] r12 Right.no]] [] (OSh.enc (OSh.plain (.tup [.s, .i IntKind.i64]) []) y) :=
  auto_okM tm_std (with_ok mixed (by kernel_rfl) (ref09_Rule_σok n) n 0 [1000042, 1000043, 1000044, 1000045, 1000046, 1000059, 1000067]) (with_pick mixed (by kernel_rfl) (ref09_Rule_σok n) n 0 [1000042, 1000043, 1000044, 1000045, 1000046, 1000059, 1000067]) mixed Tryd.func23 (by decide) (o := (OSh.plain (.tup [.s, .i IntKind.i64]) [])) h
/-! ref09_Program: function 21 -/
def ref09_Program_lv : Live := [(5, [0, 4, 5], [1000, 1001, 1002, 1003])]
noncomputable def ref09_Program_σ (n : Nat) : Spec := (inst 23 [.agg [.s, .b, .i IntKind.i64, .s, .s, .sl [Kd.s, Kd.b, Kd.i IntKind.i64, Kd.s], .s, .b, .i IntKind.i64, .s, .sl [Kd.s, Kd.b, Kd.i IntKind.i64, Kd.s, Kd.s, Kd.sl [Kd.s, Kd.b, Kd.i IntKind.i64, Kd.s], Kd.s, Kd.b, Kd.i IntKind.i64, Kd.s]]] [] (OSh.plain (.tup [.s, .i IntKind.i64]) []) (fun x e => ref09_Rule_v n x.1.1 x.1.2.1 x.1.2.2.1 x.1.2.2.2.1 x.1.2.2.2.2.1 x.1.2.2.2.2.2.1.1 x.1.2.2.2.2.2.1.2 x.1.2.2.2.2.2.2.1 x.1.2.2.2.2.2.2.2.1 x.1.2.2.2.2.2.2.2.2.1 x.1.2.2.2.2.2.2.2.2.2.1 x.1.2.2.2.2.2.2.2.2.2.2.1.1 x.1.2.2.2.2.2.2.2.2.2.2.1.2) Spec.none)
theorem ref09_Program_σok (n : Nat) : SpecOk Tryd.prog (ref09_Program_σ n) := (inst_ok (fun x e y h => ref09_Rule_c n x.1.1 x.1.2.1 x.1.2.2.1 x.1.2.2.2.1 x.1.2.2.2.2.1 x.1.2.2.2.2.2.1.1 x.1.2.2.2.2.2.1.2 x.1.2.2.2.2.2.2.1 x.1.2.2.2.2.2.2.2.1 x.1.2.2.2.2.2.2.2.2.1 x.1.2.2.2.2.2.2.2.2.2.1 x.1.2.2.2.2.2.2.2.2.2.2.1.1 x.1.2.2.2.2.2.2.2.2.2.2.1.2 y h) (SpecOk.none _))
noncomputable def ref09_Program_Φ (n : Nat) : Orc := with_ Tryd.prog (ref09_Program_σ n) [] n 0 [1000042, 1000043, 1000044, 1000045, 1000046, 1000059, 1000067]
noncomputable def ref09_Program_v (n : Nat) (b0 : Bool) (r1 : Rows) : Option ((ByteArray × Int × Unit) × Unit) :=
  DM.denFn tm (ref09_Program_Φ n) ref09_Program_lv n Tryd.f21 false [AV.sl b0 [Kd.s, Kd.b, Kd.i IntKind.i64, Kd.s, Kd.s, Kd.sl [Kd.s, Kd.b, Kd.i IntKind.i64, Kd.s], Kd.s, Kd.b, Kd.i IntKind.i64, Kd.s, Kd.sl [Kd.s, Kd.b, Kd.i IntKind.i64, Kd.s, Kd.s, Kd.sl [Kd.s, Kd.b, Kd.i IntKind.i64, Kd.s], Kd.s, Kd.b, Kd.i IntKind.i64, Kd.s]] r1 Right.no] [] (OSh.chk (OSh.plain (.tup [.s, .i IntKind.i64]) []))
noncomputable def ref09_Program_l5 (n : Nat) (b0 : Bool) (r1 : Rows) (i0 : Nat) (s3 : ByteArray) (j4 : Int) : Option ((ByteArray × Int × Unit) × Unit) :=
  DM.loopFn tm (ref09_Program_Φ n) ref09_Program_lv n Tryd.f21 false [] (OSh.chk (OSh.plain (.tup [.s, .i IntKind.i64]) [])) 5 [] i0 (St.mk [AV.sl b0 [Kd.s, Kd.b, Kd.i IntKind.i64, Kd.s, Kd.s, Kd.sl [Kd.s, Kd.b, Kd.i IntKind.i64, Kd.s], Kd.s, Kd.b, Kd.i IntKind.i64, Kd.s, Kd.sl [Kd.s, Kd.b, Kd.i IntKind.i64, Kd.s, Kd.s, Kd.sl [Kd.s, Kd.b, Kd.i IntKind.i64, Kd.s], Kd.s, Kd.b, Kd.i IntKind.i64, Kd.s]] r1 Right.no, AV.junk, AV.junk, AV.junk, AV.dv (DV.val (Value.string s3)), AV.dv (DV.val (Value.int IntKind.i64 j4)), AV.junk, AV.junk, AV.junk, AV.junk, AV.junk, AV.junk, AV.junk, AV.junk, AV.junk, AV.junk, AV.junk, AV.junk, AV.junk, AV.junk, AV.junk, AV.junk, AV.junk, AV.junk, AV.junk, AV.junk, AV.junk, AV.junk, AV.junk, AV.junk, AV.junk, AV.junk, AV.junk, AV.junk, AV.junk, AV.junk] [])
theorem ref09_Program_s5 (n : Nat) (b0 : Bool) (r1 : Rows) (i0 : Nat) (s3 : ByteArray) (j4 : Int) : ref09_Program_l5 n b0 r1 (i0 + 1) s3 j4 =
  bif decide (j4 < (↑(List.length r1) : Int)) then
    if 0 ≤ j4 then
      if j4 < (↑(List.length r1) : Int) then
        obind (ref09_Rule_v n (Row.S (List.getD r1 (Int.toNat j4) []) 0) (Row.B (List.getD r1 (Int.toNat j4) []) 1) (Row.I (List.getD r1 (Int.toNat j4) []) 2) (Row.S (List.getD r1 (Int.toNat j4) []) 3) (Row.S (List.getD r1 (Int.toNat j4) []) 4) (Row.N (List.getD r1 (Int.toNat j4) []) 5) (Row.R (List.getD r1 (Int.toNat j4) []) 5) (Row.S (List.getD r1 (Int.toNat j4) []) 6) (Row.B (List.getD r1 (Int.toNat j4) []) 7) (Row.I (List.getD r1 (Int.toNat j4) []) 8) (Row.S (List.getD r1 (Int.toNat j4) []) 9) (Row.N (List.getD r1 (Int.toNat j4) []) 10) (Row.R (List.getD r1 (Int.toNat j4) []) 10)) fun y5 =>
        bif y5.fst.snd.fst != 0 then
          some ((ByteArray.mk #[], (y5.fst.snd.fst, ())), ())
        else if ByteArray.size y5.fst.fst + 1 < 4611686018427387904 then
          if ByteArray.size s3 + ByteArray.size (y5.fst.fst ++ ByteArray.mk #[10]) < 4611686018427387904 then
            ref09_Program_l5 n b0 r1 i0 (s3 ++ (y5.fst.fst ++ ByteArray.mk #[10])) (IntKind.wrap IntKind.i64 (j4 + 1))
          else none
        else none
      else none
    else none
  else bif decide ((↑(ByteArray.size s3) : Int) > 4096) then
    some ((ByteArray.mk #[], (3, ())), ())
  else some ((s3, (0, ())), ()) := by kernel_rfl
theorem ref09_Program_e (n : Nat) (b0 : Bool) (r1 : Rows) : ref09_Program_v n b0 r1 =
  bif decide ((↑(List.length r1) : Int) > 16) then
    some ((ByteArray.mk #[], (81, ())), ())
  else ref09_Program_l5 n b0 r1 n (ByteArray.mk #[]) 0 := by kernel_rfl
theorem ref09_Program_c (n : Nat) (b0 : Bool) (r1 : Rows) (y : (ByteArray × Int × Unit) × Unit) (h : ref09_Program_v n b0 r1 = some y) : Contract Tryd.prog 21 [AV.sl b0 [Kd.s, Kd.b, Kd.i IntKind.i64, Kd.s, Kd.s, Kd.sl [Kd.s, Kd.b, Kd.i IntKind.i64, Kd.s], Kd.s, Kd.b, Kd.i IntKind.i64, Kd.s, Kd.sl [Kd.s, Kd.b, Kd.i IntKind.i64, Kd.s, Kd.s, Kd.sl [Kd.s, Kd.b, Kd.i IntKind.i64, Kd.s], Kd.s, Kd.b, Kd.i IntKind.i64, Kd.s]] r1 Right.no] [] (OSh.enc (OSh.plain (.tup [.s, .i IntKind.i64]) []) y) :=
  auto_okM tm_std (with_ok mixed (by kernel_rfl) (ref09_Program_σok n) n 0 [1000042, 1000043, 1000044, 1000045, 1000046, 1000059, 1000067]) (with_pick mixed (by kernel_rfl) (ref09_Program_σok n) n 0 [1000042, 1000043, 1000044, 1000045, 1000046, 1000059, 1000067]) mixed Tryd.func21 (by decide) (o := (OSh.plain (.tup [.s, .i IntKind.i64]) [])) h
/-! ref05_Terms: function 47 -/
def ref05_Terms_lv : Live := [(4, [0, 1, 5], [1000, 1001, 1002, 1003])]
noncomputable def ref05_Terms_σ (n : Nat) : Spec := Spec.none
theorem ref05_Terms_σok (n : Nat) : SpecOk Tryd.prog (ref05_Terms_σ n) := (SpecOk.none _)
noncomputable def ref05_Terms_Φ (n : Nat) : Orc := with_ Tryd.prog (ref05_Terms_σ n) [] n 0 [1000042, 1000043, 1000044, 1000045, 1000046, 1000059, 1000067]
noncomputable def ref05_Terms_v (n : Nat) (b0 : Bool) (r1 : Rows) (b2 : Bool) (r3 : Rows) : Option (Bool × Unit) :=
  DM.denFn tm (ref05_Terms_Φ n) ref05_Terms_lv n Tryd.f47 false [AV.sl b0 [Kd.s, Kd.b, Kd.i IntKind.i64, Kd.s] r1 Right.no, AV.sl b2 [Kd.s, Kd.b, Kd.i IntKind.i64, Kd.s] r3 Right.no] [] (OSh.chk (OSh.plain (.b) []))
noncomputable def ref05_Terms_l4 (n : Nat) (b0 : Bool) (r1 : Rows) (b2 : Bool) (r3 : Rows) (i0 : Nat) (j4 : Int) : Option (Bool × Unit) :=
  DM.loopFn tm (ref05_Terms_Φ n) ref05_Terms_lv n Tryd.f47 false [] (OSh.chk (OSh.plain (.b) [])) 4 [] i0 (St.mk [AV.sl b0 [Kd.s, Kd.b, Kd.i IntKind.i64, Kd.s] r1 Right.no, AV.sl b2 [Kd.s, Kd.b, Kd.i IntKind.i64, Kd.s] r3 Right.no, AV.junk, AV.junk, AV.junk, AV.dv (DV.val (Value.int IntKind.i64 j4)), AV.junk, AV.junk, AV.junk, AV.junk, AV.junk, AV.junk, AV.junk, AV.junk, AV.junk, AV.junk, AV.junk, AV.junk, AV.junk, AV.junk, AV.junk, AV.junk, AV.junk, AV.junk, AV.junk, AV.junk] [])
theorem ref05_Terms_s4 (n : Nat) (b0 : Bool) (r1 : Rows) (b2 : Bool) (r3 : Rows) (i0 : Nat) (j4 : Int) : ref05_Terms_l4 n b0 r1 b2 r3 (i0 + 1) j4 =
  bif decide (j4 < (↑(List.length r1) : Int)) then
    if 0 ≤ j4 then
      if j4 < (↑(List.length r1) : Int) then
        if 0 ≤ j4 then
          if j4 < (↑(List.length r3) : Int) then
            bif !(Row.S (List.getD r1 (Int.toNat j4) []) 0 == Row.S (List.getD r3 (Int.toNat j4) []) 0 && (Row.B (List.getD r1 (Int.toNat j4) []) 1 == Row.B (List.getD r3 (Int.toNat j4) []) 1 && (Row.I (List.getD r1 (Int.toNat j4) []) 2 == Row.I (List.getD r3 (Int.toNat j4) []) 2 && (Row.S (List.getD r1 (Int.toNat j4) []) 3 == Row.S (List.getD r3 (Int.toNat j4) []) 3 && true)))) then
              some (false, ())
            else ref05_Terms_l4 n b0 r1 b2 r3 i0 (IntKind.wrap IntKind.i64 (j4 + 1))
          else none
        else none
      else none
    else none
  else some (true, ()) := by kernel_rfl
theorem ref05_Terms_e (n : Nat) (b0 : Bool) (r1 : Rows) (b2 : Bool) (r3 : Rows) : ref05_Terms_v n b0 r1 b2 r3 =
  bif (↑(List.length r1) : Int) != (↑(List.length r3) : Int) then
    some (false, ())
  else ref05_Terms_l4 n b0 r1 b2 r3 n 0 := by kernel_rfl
theorem ref05_Terms_c (n : Nat) (b0 : Bool) (r1 : Rows) (b2 : Bool) (r3 : Rows) (y : Bool × Unit) (h : ref05_Terms_v n b0 r1 b2 r3 = some y) : Contract Tryd.prog 47 [AV.sl b0 [Kd.s, Kd.b, Kd.i IntKind.i64, Kd.s] r1 Right.no, AV.sl b2 [Kd.s, Kd.b, Kd.i IntKind.i64, Kd.s] r3 Right.no] [] (OSh.enc (OSh.plain (.b) []) y) :=
  auto_okM tm_std (with_ok mixed (by kernel_rfl) (ref05_Terms_σok n) n 0 [1000042, 1000043, 1000044, 1000045, 1000046, 1000059, 1000067]) (with_pick mixed (by kernel_rfl) (ref05_Terms_σok n) n 0 [1000042, 1000043, 1000044, 1000045, 1000046, 1000059, 1000067]) mixed Tryd.func47 (by decide) (o := (OSh.plain (.b) [])) h
end Go.Den
