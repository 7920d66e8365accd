import Derived.Test.YtefebdknnedioaaMemo0708
set_option linter.unusedVariables false
set_option linter.unusedSimpArgs false
set_option linter.unusedSectionVars false
namespace Go.Den
open Go.Proofs
set_option maxRecDepth 100000
/-! lex_blank: function 43 -/
def lex_blank_lv : Live := []
noncomputable def lex_blank_σ (n : Nat) : Spec := Spec.none
theorem lex_blank_σok (n : Nat) : SpecOk Try.prog (lex_blank_σ n) := (SpecOk.none _)
noncomputable def lex_blank_Φ (n : Nat) : Orc := with_ Try.prog (lex_blank_σ n) [] n 0 []
noncomputable def lex_blank_v (n : Nat) (j0 : Int) : Option (Bool × Unit) :=
  DM.denFn tm (lex_blank_Φ n) lex_blank_lv n Try.f43 false [AV.dv (DV.val (Value.int IntKind.u8 j0))] [] (OSh.chk (OSh.plain (.b) []))
theorem lex_blank_e (n : Nat) (j0 : Int) : lex_blank_v n j0 =
  bif j0 == 32 then
    some (true, ())
  else bif j0 == 9 then
    some (true, ())
  else bif j0 == 10 then
    some (true, ())
  else some (j0 == 13, ()) := by kernel_rfl
theorem lex_blank_c (n : Nat) (j0 : Int) (y : Bool × Unit) (h : lex_blank_v n j0 = some y) : Contract Try.prog 43 [AV.dv (DV.val (Value.int IntKind.u8 j0))] [] (OSh.enc (OSh.plain (.b) []) y) :=
  auto_okM tm_std (with_ok mixed (by kernel_rfl) (lex_blank_σok n) n 0 []) (with_pick mixed (by kernel_rfl) (lex_blank_σok n) n 0 []) mixed Try.func43 (by decide) (o := (OSh.plain (.b) [])) h
/-! lex_over: function 44 -/
def lex_over_lex_blank_lv : Live := [(1, [0, 1, 2], [1000, 1001, 1002, 1003])]
noncomputable def lex_over_lex_blank_σ (n : Nat) : Spec := (inst 43 [.i IntKind.u8] [] (OSh.plain (.b) []) (fun x e => lex_blank_v n x.1) Spec.none)
theorem lex_over_lex_blank_σok (n : Nat) : SpecOk Try.prog (lex_over_lex_blank_σ n) := (inst_ok (fun x e y h => lex_blank_c n x.1 y h) (SpecOk.none _))
noncomputable def lex_over_lex_blank_Φ (n : Nat) : Orc := with_ Try.prog (lex_over_lex_blank_σ n) [] n 0 []
noncomputable def lex_over_lex_blank_v (n : Nat) (s0 : ByteArray) (j1 : Int) : Option (Int × Unit) :=
  DM.denFn tm (lex_over_lex_blank_Φ n) lex_over_lex_blank_lv n Try.f44 false [AV.dv (DV.val (Value.string s0)), AV.dv (DV.val (Value.int IntKind.i64 j1)), AV.fn 43 []] [] (OSh.chk (OSh.plain (.i IntKind.i64) []))
noncomputable def lex_over_lex_blank_l1 (n : Nat) (s0 : ByteArray) (j1 : Int) (i0 : Nat) (j3 : Int) : Option (Int × Unit) :=
  DM.loopFn tm (lex_over_lex_blank_Φ n) lex_over_lex_blank_lv n Try.f44 false [] (OSh.chk (OSh.plain (.i IntKind.i64) [])) 1 [] i0 (St.mk [AV.dv (DV.val (Value.string s0)), AV.dv (DV.val (Value.int IntKind.i64 j3)), AV.fn 43 [], AV.junk, AV.junk, AV.junk, AV.junk, AV.junk, AV.junk, AV.junk, AV.junk, AV.junk, AV.junk, AV.junk, AV.junk, AV.junk, AV.junk, AV.junk, AV.junk, AV.junk, AV.junk] [])
theorem lex_over_lex_blank_s1 (n : Nat) (s0 : ByteArray) (j1 : Int) (i0 : Nat) (j3 : Int) : lex_over_lex_blank_l1 n s0 j1 (i0 + 1) j3 =
  bif decide (j3 < (↑(ByteArray.size s0) : Int)) then
    if 0 ≤ j3 then
      if j3 < (↑(ByteArray.size s0) : Int) then
        obind (lex_blank_v n (bt s0 j3)) fun y4 =>
        bif y4.fst then
          lex_over_lex_blank_l1 n s0 j1 i0 (IntKind.wrap IntKind.i64 (j3 + 1))
        else some (j3, ())
      else none
    else none
  else some (j3, ()) := by kernel_rfl
theorem lex_over_lex_blank_e (n : Nat) (s0 : ByteArray) (j1 : Int) : lex_over_lex_blank_v n s0 j1 =
  lex_over_lex_blank_l1 n s0 j1 n j1 := by kernel_rfl
theorem lex_over_lex_blank_c (n : Nat) (s0 : ByteArray) (j1 : Int) (y : Int × Unit) (h : lex_over_lex_blank_v n s0 j1 = some y) : Contract Try.prog 44 [AV.dv (DV.val (Value.string s0)), AV.dv (DV.val (Value.int IntKind.i64 j1)), AV.fn 43 []] [] (OSh.enc (OSh.plain (.i IntKind.i64) []) y) :=
  auto_okM tm_std (with_ok mixed (by kernel_rfl) (lex_over_lex_blank_σok n) n 0 []) (with_pick mixed (by kernel_rfl) (lex_over_lex_blank_σok n) n 0 []) mixed Try.func44 (by decide) (o := (OSh.plain (.i IntKind.i64) [])) h
/-! lex_skip_1: function 45 -/
def lex_skip_1_lv : Live := []
noncomputable def lex_skip_1_σ (n : Nat) : Spec := Spec.none
theorem lex_skip_1_σok (n : Nat) : SpecOk Try.prog (lex_skip_1_σ n) := (SpecOk.none _)
noncomputable def lex_skip_1_Φ (n : Nat) : Orc := with_ Try.prog (lex_skip_1_σ n) [] n 0 []
noncomputable def lex_skip_1_v (n : Nat) (j0 : Int) : Option (Bool × Unit) :=
  DM.denFn tm (lex_skip_1_Φ n) lex_skip_1_lv n Try.f45 false [AV.dv (DV.val (Value.int IntKind.u8 j0))] [] (OSh.chk (OSh.plain (.b) []))
theorem lex_skip_1_e (n : Nat) (j0 : Int) : lex_skip_1_v n j0 =
  some (j0 != 10, ()) := by kernel_rfl
theorem lex_skip_1_c (n : Nat) (j0 : Int) (y : Bool × Unit) (h : lex_skip_1_v n j0 = some y) : Contract Try.prog 45 [AV.dv (DV.val (Value.int IntKind.u8 j0))] [] (OSh.enc (OSh.plain (.b) []) y) :=
  auto_okM tm_std (with_ok mixed (by kernel_rfl) (lex_skip_1_σok n) n 0 []) (with_pick mixed (by kernel_rfl) (lex_skip_1_σok n) n 0 []) mixed Try.func45 (by decide) (o := (OSh.plain (.b) [])) h
/-! lex_over: function 44 -/
def lex_over_lex_skip_1_lv : Live := [(1, [0, 1, 2], [1000, 1001, 1002, 1003])]
noncomputable def lex_over_lex_skip_1_σ (n : Nat) : Spec := (inst 45 [.i IntKind.u8] [] (OSh.plain (.b) []) (fun x e => lex_skip_1_v n x.1) Spec.none)
theorem lex_over_lex_skip_1_σok (n : Nat) : SpecOk Try.prog (lex_over_lex_skip_1_σ n) := (inst_ok (fun x e y h => lex_skip_1_c n x.1 y h) (SpecOk.none _))
noncomputable def lex_over_lex_skip_1_Φ (n : Nat) : Orc := with_ Try.prog (lex_over_lex_skip_1_σ n) [] n 0 []
noncomputable def lex_over_lex_skip_1_v (n : Nat) (s0 : ByteArray) (j1 : Int) : Option (Int × Unit) :=
  DM.denFn tm (lex_over_lex_skip_1_Φ n) lex_over_lex_skip_1_lv n Try.f44 false [AV.dv (DV.val (Value.string s0)), AV.dv (DV.val (Value.int IntKind.i64 j1)), AV.fn 45 []] [] (OSh.chk (OSh.plain (.i IntKind.i64) []))
noncomputable def lex_over_lex_skip_1_l1 (n : Nat) (s0 : ByteArray) (j1 : Int) (i0 : Nat) (j3 : Int) : Option (Int × Unit) :=
  DM.loopFn tm (lex_over_lex_skip_1_Φ n) lex_over_lex_skip_1_lv n Try.f44 false [] (OSh.chk (OSh.plain (.i IntKind.i64) [])) 1 [] i0 (St.mk [AV.dv (DV.val (Value.string s0)), AV.dv (DV.val (Value.int IntKind.i64 j3)), AV.fn 45 [], AV.junk, AV.junk, AV.junk, AV.junk, AV.junk, AV.junk, AV.junk, AV.junk, AV.junk, AV.junk, AV.junk, AV.junk, AV.junk, AV.junk, AV.junk, AV.junk, AV.junk, AV.junk] [])
theorem lex_over_lex_skip_1_s1 (n : Nat) (s0 : ByteArray) (j1 : Int) (i0 : Nat) (j3 : Int) : lex_over_lex_skip_1_l1 n s0 j1 (i0 + 1) j3 =
  bif decide (j3 < (↑(ByteArray.size s0) : Int)) then
    if 0 ≤ j3 then
      if j3 < (↑(ByteArray.size s0) : Int) then
        obind (lex_skip_1_v n (bt s0 j3)) fun y4 =>
        bif y4.fst then
          lex_over_lex_skip_1_l1 n s0 j1 i0 (IntKind.wrap IntKind.i64 (j3 + 1))
        else some (j3, ())
      else none
    else none
  else some (j3, ()) := by kernel_rfl
theorem lex_over_lex_skip_1_e (n : Nat) (s0 : ByteArray) (j1 : Int) : lex_over_lex_skip_1_v n s0 j1 =
  lex_over_lex_skip_1_l1 n s0 j1 n j1 := by kernel_rfl
theorem lex_over_lex_skip_1_c (n : Nat) (s0 : ByteArray) (j1 : Int) (y : Int × Unit) (h : lex_over_lex_skip_1_v n s0 j1 = some y) : Contract Try.prog 44 [AV.dv (DV.val (Value.string s0)), AV.dv (DV.val (Value.int IntKind.i64 j1)), AV.fn 45 []] [] (OSh.enc (OSh.plain (.i IntKind.i64) []) y) :=
  auto_okM tm_std (with_ok mixed (by kernel_rfl) (lex_over_lex_skip_1_σok n) n 0 []) (with_pick mixed (by kernel_rfl) (lex_over_lex_skip_1_σok n) n 0 []) mixed Try.func44 (by decide) (o := (OSh.plain (.i IntKind.i64) [])) h
/-! lex_skip: function 26 -/
def lex_skip_lv : Live := [(1, [0, 1], [1000, 1001, 1002, 1003])]
noncomputable def lex_skip_σ (n : Nat) : Spec := (inst 43 [.i IntKind.u8] [] (OSh.plain (.b) []) (fun x e => lex_blank_v n x.1) (inst 44 [.s, .i IntKind.i64, .fn 43 []] [] (OSh.plain (.i IntKind.i64) []) (fun x e => lex_over_lex_blank_v n x.1 x.2.1) (inst 44 [.s, .i IntKind.i64, .fn 45 []] [] (OSh.plain (.i IntKind.i64) []) (fun x e => lex_over_lex_skip_1_v n x.1 x.2.1) Spec.none)))
theorem lex_skip_σok (n : Nat) : SpecOk Try.prog (lex_skip_σ n) := (inst_ok (fun x e y h => lex_blank_c n x.1 y h) (inst_ok (fun x e y h => lex_over_lex_blank_c n x.1 x.2.1 y h) (inst_ok (fun x e y h => lex_over_lex_skip_1_c n x.1 x.2.1 y h) (SpecOk.none _))))
noncomputable def lex_skip_Φ (n : Nat) : Orc := with_ Try.prog (lex_skip_σ n) [] n 0 []
noncomputable def lex_skip_v (n : Nat) (s0 : ByteArray) (j1 : Int) : Option (Int × Unit) :=
  DM.denFn tm (lex_skip_Φ n) lex_skip_lv n Try.f26 false [AV.dv (DV.val (Value.string s0)), AV.dv (DV.val (Value.int IntKind.i64 j1))] [] (OSh.chk (OSh.plain (.i IntKind.i64) []))
noncomputable def lex_skip_l1 (n : Nat) (s0 : ByteArray) (j1 : Int) (i0 : Nat) (j5 : Int) : Option (Int × Unit) :=
  DM.loopFn tm (lex_skip_Φ n) lex_skip_lv n Try.f26 false [] (OSh.chk (OSh.plain (.i IntKind.i64) [])) 1 [] i0 (St.mk [AV.dv (DV.val (Value.string s0)), AV.dv (DV.val (Value.int IntKind.i64 j5)), AV.junk, AV.junk, AV.junk, AV.junk, AV.junk, AV.junk, AV.junk, AV.junk, AV.junk, AV.junk, AV.junk, AV.junk, AV.junk, AV.junk, AV.junk, AV.junk, AV.junk, AV.junk, AV.junk, AV.junk, AV.junk, AV.junk, AV.junk, AV.junk] [])
theorem lex_skip_s1 (n : Nat) (s0 : ByteArray) (j1 : Int) (i0 : Nat) (j5 : Int) : lex_skip_l1 n s0 j1 (i0 + 1) j5 =
  bif decide (j5 < (↑(ByteArray.size s0) : Int)) then
    if 0 ≤ j5 then
      if j5 < (↑(ByteArray.size s0) : Int) then
        obind (lex_blank_v n (bt s0 j5)) fun y6 =>
        bif y6.fst then
          obind (lex_over_lex_blank_v n s0 j5) fun y7 =>
          lex_skip_l1 n s0 j1 i0 y7.fst
        else if 0 ≤ j5 then
          if j5 < (↑(ByteArray.size s0) : Int) then
            bif bt s0 j5 == 37 then
              obind (lex_over_lex_skip_1_v n s0 j5) fun y8 =>
              lex_skip_l1 n s0 j1 i0 y8.fst
            else some (j5, ())
          else none
        else none
      else none
    else none
  else some (j5, ()) := by kernel_rfl
theorem lex_skip_e (n : Nat) (s0 : ByteArray) (j1 : Int) : lex_skip_v n s0 j1 =
  lex_skip_l1 n s0 j1 n j1 := by kernel_rfl
theorem lex_skip_c (n : Nat) (s0 : ByteArray) (j1 : Int) (y : Int × Unit) (h : lex_skip_v n s0 j1 = some y) : Contract Try.prog 26 [AV.dv (DV.val (Value.string s0)), AV.dv (DV.val (Value.int IntKind.i64 j1))] [] (OSh.enc (OSh.plain (.i IntKind.i64) []) y) :=
  auto_okM tm_std (with_ok mixed (by kernel_rfl) (lex_skip_σok n) n 0 []) (with_pick mixed (by kernel_rfl) (lex_skip_σok n) n 0 []) mixed Try.func26 (by decide) (o := (OSh.plain (.i IntKind.i64) [])) h
/-! lex_small: function 47 -/
def lex_small_lv : Live := []
noncomputable def lex_small_σ (n : Nat) : Spec := Spec.none
theorem lex_small_σok (n : Nat) : SpecOk Try.prog (lex_small_σ n) := (SpecOk.none _)
noncomputable def lex_small_Φ (n : Nat) : Orc := with_ Try.prog (lex_small_σ n) [] n 0 []
noncomputable def lex_small_v (n : Nat) (j0 : Int) : Option (Bool × Unit) :=
  DM.denFn tm (lex_small_Φ n) lex_small_lv n Try.f47 false [AV.dv (DV.val (Value.int IntKind.u8 j0))] [] (OSh.chk (OSh.plain (.b) []))
theorem lex_small_e (n : Nat) (j0 : Int) : lex_small_v n j0 =
  bif decide (j0 ≥ 97) then
    some (decide (j0 ≤ 122), ())
  else some (false, ()) := by kernel_rfl
theorem lex_small_c (n : Nat) (j0 : Int) (y : Bool × Unit) (h : lex_small_v n j0 = some y) : Contract Try.prog 47 [AV.dv (DV.val (Value.int IntKind.u8 j0))] [] (OSh.enc (OSh.plain (.b) []) y) :=
  auto_okM tm_std (with_ok mixed (by kernel_rfl) (lex_small_σok n) n 0 []) (with_pick mixed (by kernel_rfl) (lex_small_σok n) n 0 []) mixed Try.func47 (by decide) (o := (OSh.plain (.b) [])) h
/-! lex_great: function 48 -/
def lex_great_lv : Live := []
noncomputable def lex_great_σ (n : Nat) : Spec := Spec.none
theorem lex_great_σok (n : Nat) : SpecOk Try.prog (lex_great_σ n) := (SpecOk.none _)
noncomputable def lex_great_Φ (n : Nat) : Orc := with_ Try.prog (lex_great_σ n) [] n 0 []
noncomputable def lex_great_v (n : Nat) (j0 : Int) : Option (Bool × Unit) :=
  DM.denFn tm (lex_great_Φ n) lex_great_lv n Try.f48 false [AV.dv (DV.val (Value.int IntKind.u8 j0))] [] (OSh.chk (OSh.plain (.b) []))
theorem lex_great_e (n : Nat) (j0 : Int) : lex_great_v n j0 =
  bif decide (j0 ≥ 65) then
    some (decide (j0 ≤ 90), ())
  else some (false, ()) := by kernel_rfl
theorem lex_great_c (n : Nat) (j0 : Int) (y : Bool × Unit) (h : lex_great_v n j0 = some y) : Contract Try.prog 48 [AV.dv (DV.val (Value.int IntKind.u8 j0))] [] (OSh.enc (OSh.plain (.b) []) y) :=
  auto_okM tm_std (with_ok mixed (by kernel_rfl) (lex_great_σok n) n 0 []) (with_pick mixed (by kernel_rfl) (lex_great_σok n) n 0 []) mixed Try.func48 (by decide) (o := (OSh.plain (.b) [])) h
/-! lex_digit: function 49 -/
def lex_digit_lv : Live := []
noncomputable def lex_digit_σ (n : Nat) : Spec := Spec.none
theorem lex_digit_σok (n : Nat) : SpecOk Try.prog (lex_digit_σ n) := (SpecOk.none _)
noncomputable def lex_digit_Φ (n : Nat) : Orc := with_ Try.prog (lex_digit_σ n) [] n 0 []
noncomputable def lex_digit_v (n : Nat) (j0 : Int) : Option (Bool × Unit) :=
  DM.denFn tm (lex_digit_Φ n) lex_digit_lv n Try.f49 false [AV.dv (DV.val (Value.int IntKind.u8 j0))] [] (OSh.chk (OSh.plain (.b) []))
theorem lex_digit_e (n : Nat) (j0 : Int) : lex_digit_v n j0 =
  bif decide (j0 ≥ 48) then
    some (decide (j0 ≤ 57), ())
  else some (false, ()) := by kernel_rfl
theorem lex_digit_c (n : Nat) (j0 : Int) (y : Bool × Unit) (h : lex_digit_v n j0 = some y) : Contract Try.prog 49 [AV.dv (DV.val (Value.int IntKind.u8 j0))] [] (OSh.enc (OSh.plain (.b) []) y) :=
  auto_okM tm_std (with_ok mixed (by kernel_rfl) (lex_digit_σok n) n 0 []) (with_pick mixed (by kernel_rfl) (lex_digit_σok n) n 0 []) mixed Try.func49 (by decide) (o := (OSh.plain (.b) [])) h
/-! lex_one_1: function 46 -/
def lex_one_1_lv : Live := []
noncomputable def lex_one_1_σ (n : Nat) : Spec := (inst 47 [.i IntKind.u8] [] (OSh.plain (.b) []) (fun x e => lex_small_v n x.1) (inst 48 [.i IntKind.u8] [] (OSh.plain (.b) []) (fun x e => lex_great_v n x.1) (inst 49 [.i IntKind.u8] [] (OSh.plain (.b) []) (fun x e => lex_digit_v n x.1) Spec.none)))
theorem lex_one_1_σok (n : Nat) : SpecOk Try.prog (lex_one_1_σ n) := (inst_ok (fun x e y h => lex_small_c n x.1 y h) (inst_ok (fun x e y h => lex_great_c n x.1 y h) (inst_ok (fun x e y h => lex_digit_c n x.1 y h) (SpecOk.none _))))
noncomputable def lex_one_1_Φ (n : Nat) : Orc := with_ Try.prog (lex_one_1_σ n) [] n 0 []
noncomputable def lex_one_1_v (n : Nat) (j0 : Int) : Option (Bool × Unit) :=
  DM.denFn tm (lex_one_1_Φ n) lex_one_1_lv n Try.f46 false [AV.dv (DV.val (Value.int IntKind.u8 j0))] [] (OSh.chk (OSh.plain (.b) []))
theorem lex_one_1_e (n : Nat) (j0 : Int) : lex_one_1_v n j0 =
  obind (lex_small_v n j0) fun y1 =>
  bif y1.fst then
    some (true, ())
  else obind (lex_great_v n j0) fun y2 =>
  bif y2.fst then
    some (true, ())
  else obind (lex_digit_v n j0) fun y3 =>
  bif y3.fst then
    some (true, ())
  else some (j0 == 95, ()) := by kernel_rfl
theorem lex_one_1_c (n : Nat) (j0 : Int) (y : Bool × Unit) (h : lex_one_1_v n j0 = some y) : Contract Try.prog 46 [AV.dv (DV.val (Value.int IntKind.u8 j0))] [] (OSh.enc (OSh.plain (.b) []) y) :=
  auto_okM tm_std (with_ok mixed (by kernel_rfl) (lex_one_1_σok n) n 0 []) (with_pick mixed (by kernel_rfl) (lex_one_1_σok n) n 0 []) mixed Try.func46 (by decide) (o := (OSh.plain (.b) [])) h
/-! lex_over: function 44 -/
def lex_over_lex_one_1_lv : Live := [(1, [0, 1, 2], [1000, 1001, 1002, 1003])]
noncomputable def lex_over_lex_one_1_σ (n : Nat) : Spec := (inst 46 [.i IntKind.u8] [] (OSh.plain (.b) []) (fun x e => lex_one_1_v n x.1) Spec.none)
theorem lex_over_lex_one_1_σok (n : Nat) : SpecOk Try.prog (lex_over_lex_one_1_σ n) := (inst_ok (fun x e y h => lex_one_1_c n x.1 y h) (SpecOk.none _))
noncomputable def lex_over_lex_one_1_Φ (n : Nat) : Orc := with_ Try.prog (lex_over_lex_one_1_σ n) [] n 0 []
noncomputable def lex_over_lex_one_1_v (n : Nat) (s0 : ByteArray) (j1 : Int) : Option (Int × Unit) :=
  DM.denFn tm (lex_over_lex_one_1_Φ n) lex_over_lex_one_1_lv n Try.f44 false [AV.dv (DV.val (Value.string s0)), AV.dv (DV.val (Value.int IntKind.i64 j1)), AV.fn 46 []] [] (OSh.chk (OSh.plain (.i IntKind.i64) []))
noncomputable def lex_over_lex_one_1_l1 (n : Nat) (s0 : ByteArray) (j1 : Int) (i0 : Nat) (j3 : Int) : Option (Int × Unit) :=
  DM.loopFn tm (lex_over_lex_one_1_Φ n) lex_over_lex_one_1_lv n Try.f44 false [] (OSh.chk (OSh.plain (.i IntKind.i64) [])) 1 [] i0 (St.mk [AV.dv (DV.val (Value.string s0)), AV.dv (DV.val (Value.int IntKind.i64 j3)), AV.fn 46 [], AV.junk, AV.junk, AV.junk, AV.junk, AV.junk, AV.junk, AV.junk, AV.junk, AV.junk, AV.junk, AV.junk, AV.junk, AV.junk, AV.junk, AV.junk, AV.junk, AV.junk, AV.junk] [])
theorem lex_over_lex_one_1_s1 (n : Nat) (s0 : ByteArray) (j1 : Int) (i0 : Nat) (j3 : Int) : lex_over_lex_one_1_l1 n s0 j1 (i0 + 1) j3 =
  bif decide (j3 < (↑(ByteArray.size s0) : Int)) then
    if 0 ≤ j3 then
      if j3 < (↑(ByteArray.size s0) : Int) then
        obind (lex_one_1_v n (bt s0 j3)) fun y4 =>
        bif y4.fst then
          lex_over_lex_one_1_l1 n s0 j1 i0 (IntKind.wrap IntKind.i64 (j3 + 1))
        else some (j3, ())
      else none
    else none
  else some (j3, ()) := by kernel_rfl
theorem lex_over_lex_one_1_e (n : Nat) (s0 : ByteArray) (j1 : Int) : lex_over_lex_one_1_v n s0 j1 =
  lex_over_lex_one_1_l1 n s0 j1 n j1 := by kernel_rfl
theorem lex_over_lex_one_1_c (n : Nat) (s0 : ByteArray) (j1 : Int) (y : Int × Unit) (h : lex_over_lex_one_1_v n s0 j1 = some y) : Contract Try.prog 44 [AV.dv (DV.val (Value.string s0)), AV.dv (DV.val (Value.int IntKind.i64 j1)), AV.fn 46 []] [] (OSh.enc (OSh.plain (.i IntKind.i64) []) y) :=
  auto_okM tm_std (with_ok mixed (by kernel_rfl) (lex_over_lex_one_1_σok n) n 0 []) (with_pick mixed (by kernel_rfl) (lex_over_lex_one_1_σok n) n 0 []) mixed Try.func44 (by decide) (o := (OSh.plain (.i IntKind.i64) [])) h
/-! lex_over: function 44 -/
def lex_over_lex_digit_lv : Live := [(1, [0, 1, 2], [1000, 1001, 1002, 1003])]
noncomputable def lex_over_lex_digit_σ (n : Nat) : Spec := (inst 49 [.i IntKind.u8] [] (OSh.plain (.b) []) (fun x e => lex_digit_v n x.1) Spec.none)
theorem lex_over_lex_digit_σok (n : Nat) : SpecOk Try.prog (lex_over_lex_digit_σ n) := (inst_ok (fun x e y h => lex_digit_c n x.1 y h) (SpecOk.none _))
noncomputable def lex_over_lex_digit_Φ (n : Nat) : Orc := with_ Try.prog (lex_over_lex_digit_σ n) [] n 0 []
noncomputable def lex_over_lex_digit_v (n : Nat) (s0 : ByteArray) (j1 : Int) : Option (Int × Unit) :=
  DM.denFn tm (lex_over_lex_digit_Φ n) lex_over_lex_digit_lv n Try.f44 false [AV.dv (DV.val (Value.string s0)), AV.dv (DV.val (Value.int IntKind.i64 j1)), AV.fn 49 []] [] (OSh.chk (OSh.plain (.i IntKind.i64) []))
noncomputable def lex_over_lex_digit_l1 (n : Nat) (s0 : ByteArray) (j1 : Int) (i0 : Nat) (j3 : Int) : Option (Int × Unit) :=
  DM.loopFn tm (lex_over_lex_digit_Φ n) lex_over_lex_digit_lv n Try.f44 false [] (OSh.chk (OSh.plain (.i IntKind.i64) [])) 1 [] i0 (St.mk [AV.dv (DV.val (Value.string s0)), AV.dv (DV.val (Value.int IntKind.i64 j3)), AV.fn 49 [], AV.junk, AV.junk, AV.junk, AV.junk, AV.junk, AV.junk, AV.junk, AV.junk, AV.junk, AV.junk, AV.junk, AV.junk, AV.junk, AV.junk, AV.junk, AV.junk, AV.junk, AV.junk] [])
theorem lex_over_lex_digit_s1 (n : Nat) (s0 : ByteArray) (j1 : Int) (i0 : Nat) (j3 : Int) : lex_over_lex_digit_l1 n s0 j1 (i0 + 1) j3 =
  bif decide (j3 < (↑(ByteArray.size s0) : Int)) then
    if 0 ≤ j3 then
      if j3 < (↑(ByteArray.size s0) : Int) then
        obind (lex_digit_v n (bt s0 j3)) fun y4 =>
        bif y4.fst then
          lex_over_lex_digit_l1 n s0 j1 i0 (IntKind.wrap IntKind.i64 (j3 + 1))
        else some (j3, ())
      else none
    else none
  else some (j3, ()) := by kernel_rfl
theorem lex_over_lex_digit_e (n : Nat) (s0 : ByteArray) (j1 : Int) : lex_over_lex_digit_v n s0 j1 =
  lex_over_lex_digit_l1 n s0 j1 n j1 := by kernel_rfl
theorem lex_over_lex_digit_c (n : Nat) (s0 : ByteArray) (j1 : Int) (y : Int × Unit) (h : lex_over_lex_digit_v n s0 j1 = some y) : Contract Try.prog 44 [AV.dv (DV.val (Value.string s0)), AV.dv (DV.val (Value.int IntKind.i64 j1)), AV.fn 49 []] [] (OSh.enc (OSh.plain (.i IntKind.i64) []) y) :=
  auto_okM tm_std (with_ok mixed (by kernel_rfl) (lex_over_lex_digit_σok n) n 0 []) (with_pick mixed (by kernel_rfl) (lex_over_lex_digit_σok n) n 0 []) mixed Try.func44 (by decide) (o := (OSh.plain (.i IntKind.i64) [])) h
/-! lex_number: function 50 -/
def lex_number_lv : Live := [(8, [0, 4, 5, 30, 31], [1000, 1001, 1002, 1003])]
noncomputable def lex_number_σ (n : Nat) : Spec := Spec.none
theorem lex_number_σok (n : Nat) : SpecOk Try.prog (lex_number_σ n) := (SpecOk.none _)
noncomputable def lex_number_Φ (n : Nat) : Orc := with_ Try.prog (lex_number_σ n) [] n 0 []
noncomputable def lex_number_v (n : Nat) (s0 : ByteArray) : Option ((Int × Bool × Unit) × Unit) :=
  DM.denFn tm (lex_number_Φ n) lex_number_lv n Try.f50 false [AV.dv (DV.val (Value.string s0))] [] (OSh.chk (OSh.plain (.tup [.i IntKind.i64, .b]) []))
noncomputable def lex_number_l8 (n : Nat) (s0 : ByteArray) (i0 : Nat) (s1 : ByteArray) (j2 : Int) (j3 : Int) (j4 : Int) : Option ((Int × Bool × Unit) × Unit) :=
  DM.loopFn tm (lex_number_Φ n) lex_number_lv n Try.f50 false [] (OSh.chk (OSh.plain (.tup [.i IntKind.i64, .b]) [])) 8 [] i0 (St.mk [AV.dv (DV.val (Value.string s1)), AV.junk, AV.junk, AV.junk, AV.dv (DV.val (Value.bool (bt s0 0 == 45))), AV.dv (DV.val (Value.int IntKind.i64 j3)), AV.junk, AV.junk, AV.junk, AV.junk, AV.junk, AV.junk, AV.junk, AV.junk, AV.junk, AV.junk, AV.junk, AV.junk, AV.junk, AV.junk, AV.junk, AV.junk, AV.junk, AV.junk, AV.junk, AV.junk, AV.junk, AV.junk, AV.junk, AV.junk, AV.dv (DV.val (Value.int IntKind.i64 j2)), AV.dv (DV.val (Value.int IntKind.i64 j4)), AV.junk, AV.junk, AV.junk, AV.junk, AV.junk, AV.junk, AV.junk, AV.junk, AV.junk, AV.junk, AV.junk, AV.junk, AV.junk, AV.junk, AV.junk, AV.junk, AV.junk, AV.junk, AV.junk, AV.junk, AV.junk, AV.junk, AV.junk] [])
theorem lex_number_s8 (n : Nat) (s0 : ByteArray) (i0 : Nat) (s1 : ByteArray) (j2 : Int) (j3 : Int) (j4 : Int) : lex_number_l8 n s0 (i0 + 1) s1 j2 j3 j4 =
  bif decide (j4 < j2) then
    if 0 ≤ j4 then
      if j4 < (↑(ByteArray.size s1) : Int) then
        bif decide (j3 < IntKind.wrap IntKind.i64 (Int.tdiv (IntKind.wrap IntKind.i64 (-9223372036854775808 + IntKind.wrap IntKind.i64 (IntKind.wrap IntKind.u8 (bt s1 j4 - 48)))) 10)) then
          some ((0, (false, ())), ())
        else lex_number_l8 n s0 i0 s1 j2 (IntKind.wrap IntKind.i64 (IntKind.wrap IntKind.i64 (10 * j3) - IntKind.wrap IntKind.i64 (IntKind.wrap IntKind.u8 (bt s1 j4 - 48)))) (IntKind.wrap IntKind.i64 (j4 + 1))
      else none
    else none
  else bif bt s0 0 == 45 then
    some ((j3, (true, ())), ())
  else some ((IntKind.wrap IntKind.i64 (0 - j3), (j3 != -9223372036854775808, ())), ()) := by kernel_rfl
theorem lex_number_e (n : Nat) (s0 : ByteArray) : lex_number_v n s0 =
  if 0 < (↑(ByteArray.size s0) : Int) then
    bif bt s0 0 == 45 then
      if 1 ≤ (↑(ByteArray.size s0) : Int) then
        if (↑(ByteArray.size s0) : Int) ≤ (↑(ByteArray.size s0) : Int) then
          bif ByteArray.extract s0 1 (Int.toNat (↑(ByteArray.size s0) : Int)) == ByteArray.mk #[] then
            some ((0, (false, ())), ())
          else if 0 < (↑(ByteArray.size (ByteArray.extract s0 1 (Int.toNat (↑(ByteArray.size s0) : Int)))) : Int) then
            bif bt (ByteArray.extract s0 1 (Int.toNat (↑(ByteArray.size s0) : Int))) 0 == 48 then
              bif bt s0 0 == 45 then
                some ((0, (false, ())), ())
              else bif decide ((↑(ByteArray.size (ByteArray.extract s0 1 (Int.toNat (↑(ByteArray.size s0) : Int)))) : Int) > 1) then
                some ((0, (false, ())), ())
              else lex_number_l8 n s0 n (ByteArray.extract s0 1 (Int.toNat (↑(ByteArray.size s0) : Int))) ((↑(ByteArray.size (ByteArray.extract s0 1 (Int.toNat (↑(ByteArray.size s0) : Int)))) : Int)) 0 0
            else lex_number_l8 n s0 n (ByteArray.extract s0 1 (Int.toNat (↑(ByteArray.size s0) : Int))) ((↑(ByteArray.size (ByteArray.extract s0 1 (Int.toNat (↑(ByteArray.size s0) : Int)))) : Int)) 0 0
          else none
        else none
      else none
    else bif s0 == ByteArray.mk #[] then
      some ((0, (false, ())), ())
    else if 0 < (↑(ByteArray.size s0) : Int) then
      bif bt s0 0 == 48 then
        bif bt s0 0 == 45 then
          some ((0, (false, ())), ())
        else bif decide ((↑(ByteArray.size s0) : Int) > 1) then
          some ((0, (false, ())), ())
        else lex_number_l8 n s0 n s0 ((↑(ByteArray.size s0) : Int)) 0 0
      else lex_number_l8 n s0 n s0 ((↑(ByteArray.size s0) : Int)) 0 0
    else none
  else none := by kernel_rfl
theorem lex_number_c (n : Nat) (s0 : ByteArray) (y : (Int × Bool × Unit) × Unit) (h : lex_number_v n s0 = some y) : Contract Try.prog 50 [AV.dv (DV.val (Value.string s0))] [] (OSh.enc (OSh.plain (.tup [.i IntKind.i64, .b]) []) y) :=
  auto_okM tm_std (with_ok mixed (by kernel_rfl) (lex_number_σok n) n 0 []) (with_pick mixed (by kernel_rfl) (lex_number_σok n) n 0 []) mixed Try.func50 (by decide) (o := (OSh.plain (.tup [.i IntKind.i64, .b]) [])) h
/-! lex_quoted_1: function 71 -/
def lex_quoted_1_lv : Live := []
noncomputable def lex_quoted_1_σ (n : Nat) : Spec := Spec.none
theorem lex_quoted_1_σok (n : Nat) : SpecOk Try.prog (lex_quoted_1_σ n) := (SpecOk.none _)
noncomputable def lex_quoted_1_Φ (n : Nat) : Orc := with_ Try.prog (lex_quoted_1_σ n) [] n 0 []
noncomputable def lex_quoted_1_v (n : Nat) (j0 : Int) : Option (Bool × Unit) :=
  DM.denFn tm (lex_quoted_1_Φ n) lex_quoted_1_lv n Try.f71 false [AV.dv (DV.val (Value.int IntKind.u8 j0))] [] (OSh.chk (OSh.plain (.b) []))
theorem lex_quoted_1_e (n : Nat) (j0 : Int) : lex_quoted_1_v n j0 =
  bif decide (j0 ≥ 32) then
    bif decide (j0 ≤ 126) then
      bif j0 != 34 then
        some (j0 != 92, ())
      else some (false, ())
    else some (false, ())
  else some (false, ()) := by kernel_rfl
theorem lex_quoted_1_c (n : Nat) (j0 : Int) (y : Bool × Unit) (h : lex_quoted_1_v n j0 = some y) : Contract Try.prog 71 [AV.dv (DV.val (Value.int IntKind.u8 j0))] [] (OSh.enc (OSh.plain (.b) []) y) :=
  auto_okM tm_std (with_ok mixed (by kernel_rfl) (lex_quoted_1_σok n) n 0 []) (with_pick mixed (by kernel_rfl) (lex_quoted_1_σok n) n 0 []) mixed Try.func71 (by decide) (o := (OSh.plain (.b) [])) h
/-! lex_over: function 44 -/
def lex_over_lex_quoted_1_lv : Live := [(1, [0, 1, 2], [1000, 1001, 1002, 1003])]
noncomputable def lex_over_lex_quoted_1_σ (n : Nat) : Spec := (inst 71 [.i IntKind.u8] [] (OSh.plain (.b) []) (fun x e => lex_quoted_1_v n x.1) Spec.none)
theorem lex_over_lex_quoted_1_σok (n : Nat) : SpecOk Try.prog (lex_over_lex_quoted_1_σ n) := (inst_ok (fun x e y h => lex_quoted_1_c n x.1 y h) (SpecOk.none _))
noncomputable def lex_over_lex_quoted_1_Φ (n : Nat) : Orc := with_ Try.prog (lex_over_lex_quoted_1_σ n) [] n 0 []
noncomputable def lex_over_lex_quoted_1_v (n : Nat) (s0 : ByteArray) (j1 : Int) : Option (Int × Unit) :=
  DM.denFn tm (lex_over_lex_quoted_1_Φ n) lex_over_lex_quoted_1_lv n Try.f44 false [AV.dv (DV.val (Value.string s0)), AV.dv (DV.val (Value.int IntKind.i64 j1)), AV.fn 71 []] [] (OSh.chk (OSh.plain (.i IntKind.i64) []))
noncomputable def lex_over_lex_quoted_1_l1 (n : Nat) (s0 : ByteArray) (j1 : Int) (i0 : Nat) (j3 : Int) : Option (Int × Unit) :=
  DM.loopFn tm (lex_over_lex_quoted_1_Φ n) lex_over_lex_quoted_1_lv n Try.f44 false [] (OSh.chk (OSh.plain (.i IntKind.i64) [])) 1 [] i0 (St.mk [AV.dv (DV.val (Value.string s0)), AV.dv (DV.val (Value.int IntKind.i64 j3)), AV.fn 71 [], AV.junk, AV.junk, AV.junk, AV.junk, AV.junk, AV.junk, AV.junk, AV.junk, AV.junk, AV.junk, AV.junk, AV.junk, AV.junk, AV.junk, AV.junk, AV.junk, AV.junk, AV.junk] [])
theorem lex_over_lex_quoted_1_s1 (n : Nat) (s0 : ByteArray) (j1 : Int) (i0 : Nat) (j3 : Int) : lex_over_lex_quoted_1_l1 n s0 j1 (i0 + 1) j3 =
  bif decide (j3 < (↑(ByteArray.size s0) : Int)) then
    if 0 ≤ j3 then
      if j3 < (↑(ByteArray.size s0) : Int) then
        obind (lex_quoted_1_v n (bt s0 j3)) fun y4 =>
        bif y4.fst then
          lex_over_lex_quoted_1_l1 n s0 j1 i0 (IntKind.wrap IntKind.i64 (j3 + 1))
        else some (j3, ())
      else none
    else none
  else some (j3, ()) := by kernel_rfl
theorem lex_over_lex_quoted_1_e (n : Nat) (s0 : ByteArray) (j1 : Int) : lex_over_lex_quoted_1_v n s0 j1 =
  lex_over_lex_quoted_1_l1 n s0 j1 n j1 := by kernel_rfl
theorem lex_over_lex_quoted_1_c (n : Nat) (s0 : ByteArray) (j1 : Int) (y : Int × Unit) (h : lex_over_lex_quoted_1_v n s0 j1 = some y) : Contract Try.prog 44 [AV.dv (DV.val (Value.string s0)), AV.dv (DV.val (Value.int IntKind.i64 j1)), AV.fn 71 []] [] (OSh.enc (OSh.plain (.i IntKind.i64) []) y) :=
  auto_okM tm_std (with_ok mixed (by kernel_rfl) (lex_over_lex_quoted_1_σok n) n 0 []) (with_pick mixed (by kernel_rfl) (lex_over_lex_quoted_1_σok n) n 0 []) mixed Try.func44 (by decide) (o := (OSh.plain (.i IntKind.i64) [])) h
/-! lex_quoted: function 51 -/
def lex_quoted_lv : Live := []
noncomputable def lex_quoted_σ (n : Nat) : Spec := (inst 44 [.s, .i IntKind.i64, .fn 71 []] [] (OSh.plain (.i IntKind.i64) []) (fun x e => lex_over_lex_quoted_1_v n x.1 x.2.1) Spec.none)
theorem lex_quoted_σok (n : Nat) : SpecOk Try.prog (lex_quoted_σ n) := (inst_ok (fun x e y h => lex_over_lex_quoted_1_c n x.1 x.2.1 y h) (SpecOk.none _))
noncomputable def lex_quoted_Φ (n : Nat) : Orc := with_ Try.prog (lex_quoted_σ n) [] n 0 []
noncomputable def lex_quoted_v (n : Nat) (s0 : ByteArray) (j1 : Int) : Option ((ByteArray × Int × Bool × Unit) × Unit) :=
  DM.denFn tm (lex_quoted_Φ n) lex_quoted_lv n Try.f51 false [AV.dv (DV.val (Value.string s0)), AV.dv (DV.val (Value.int IntKind.i64 j1))] [] (OSh.chk (OSh.plain (.tup [.s, .i IntKind.i64, .b]) []))
theorem lex_quoted_e (n : Nat) (s0 : ByteArray) (j1 : Int) : lex_quoted_v n s0 j1 =
  obind (lex_over_lex_quoted_1_v n s0 (IntKind.wrap IntKind.i64 (j1 + 1))) fun y2 =>
  bif decide (y2.fst ≥ (↑(ByteArray.size s0) : Int)) then
    some ((ByteArray.mk #[], (0, (false, ()))), ())
  else if 0 ≤ y2.fst then
    if y2.fst < (↑(ByteArray.size s0) : Int) then
      bif bt s0 y2.fst != 34 then
        some ((ByteArray.mk #[], (0, (false, ()))), ())
      else if 0 ≤ IntKind.wrap IntKind.i64 (j1 + 1) then
        if IntKind.wrap IntKind.i64 (j1 + 1) ≤ y2.fst then
          if y2.fst ≤ (↑(ByteArray.size s0) : Int) then
            some ((ByteArray.extract s0 (Int.toNat (IntKind.wrap IntKind.i64 (j1 + 1))) (Int.toNat y2.fst), (IntKind.wrap IntKind.i64 (y2.fst + 1), (true, ()))), ())
          else none
        else none
      else none
    else none
  else none := by kernel_rfl
theorem lex_quoted_c (n : Nat) (s0 : ByteArray) (j1 : Int) (y : (ByteArray × Int × Bool × Unit) × Unit) (h : lex_quoted_v n s0 j1 = some y) : Contract Try.prog 51 [AV.dv (DV.val (Value.string s0)), AV.dv (DV.val (Value.int IntKind.i64 j1))] [] (OSh.enc (OSh.plain (.tup [.s, .i IntKind.i64, .b]) []) y) :=
  auto_okM tm_std (with_ok mixed (by kernel_rfl) (lex_quoted_σok n) n 0 []) (with_pick mixed (by kernel_rfl) (lex_quoted_σok n) n 0 []) mixed Try.func51 (by decide) (o := (OSh.plain (.tup [.s, .i IntKind.i64, .b]) [])) h
/-! lex_one: function 27 -/
def lex_one_lv : Live := []
noncomputable def lex_one_σ (n : Nat) : Spec := (inst 47 [.i IntKind.u8] [] (OSh.plain (.b) []) (fun x e => lex_small_v n x.1) (inst 44 [.s, .i IntKind.i64, .fn 46 []] [] (OSh.plain (.i IntKind.i64) []) (fun x e => lex_over_lex_one_1_v n x.1 x.2.1) (inst 48 [.i IntKind.u8] [] (OSh.plain (.b) []) (fun x e => lex_great_v n x.1) (inst 49 [.i IntKind.u8] [] (OSh.plain (.b) []) (fun x e => lex_digit_v n x.1) (inst 44 [.s, .i IntKind.i64, .fn 49 []] [] (OSh.plain (.i IntKind.i64) []) (fun x e => lex_over_lex_digit_v n x.1 x.2.1) (inst 50 [.s] [] (OSh.plain (.tup [.i IntKind.i64, .b]) []) (fun x e => lex_number_v n x.1) (inst 51 [.s, .i IntKind.i64] [] (OSh.plain (.tup [.s, .i IntKind.i64, .b]) []) (fun x e => lex_quoted_v n x.1 x.2.1) Spec.none)))))))
theorem lex_one_σok (n : Nat) : SpecOk Try.prog (lex_one_σ n) := (inst_ok (fun x e y h => lex_small_c n x.1 y h) (inst_ok (fun x e y h => lex_over_lex_one_1_c n x.1 x.2.1 y h) (inst_ok (fun x e y h => lex_great_c n x.1 y h) (inst_ok (fun x e y h => lex_digit_c n x.1 y h) (inst_ok (fun x e y h => lex_over_lex_digit_c n x.1 x.2.1 y h) (inst_ok (fun x e y h => lex_number_c n x.1 y h) (inst_ok (fun x e y h => lex_quoted_c n x.1 x.2.1 y h) (SpecOk.none _))))))))
noncomputable def lex_one_Φ (n : Nat) : Orc := with_ Try.prog (lex_one_σ n) [] n 0 []
noncomputable def lex_one_v (n : Nat) (s0 : ByteArray) (j1 : Int) : Option (((Int × ByteArray × Int × Int × Unit) × Int × Int × Unit) × Unit) :=
  DM.denFn tm (lex_one_Φ n) lex_one_lv n Try.f27 false [AV.dv (DV.val (Value.string s0)), AV.dv (DV.val (Value.int IntKind.i64 j1))] [] (OSh.chk (OSh.plain (.tup [.agg [.i IntKind.i64, .s, .i IntKind.i64, .i IntKind.i64], .i IntKind.i64, .i IntKind.i64]) []))
theorem lex_one_e (n : Nat) (s0 : ByteArray) (j1 : Int) : lex_one_v n s0 j1 =
  if 0 ≤ j1 then
    if j1 < (↑(ByteArray.size s0) : Int) then
      obind (lex_small_v n (bt s0 j1)) fun y2 =>
      bif y2.fst then
        obind (lex_over_lex_one_1_v n s0 j1) fun y3 =>
        if 0 ≤ j1 then
          if j1 ≤ y3.fst then
            if y3.fst ≤ (↑(ByteArray.size s0) : Int) then
              bif decide ((↑(ByteArray.size (ByteArray.extract s0 (Int.toNat j1) (Int.toNat y3.fst))) : Int) > 32) then
                some (((1, (ByteArray.extract s0 (Int.toNat j1) (Int.toNat y3.fst), (0, (j1, ())))), (0, (71, ()))), ())
              else some (((1, (ByteArray.extract s0 (Int.toNat j1) (Int.toNat y3.fst), (0, (j1, ())))), (y3.fst, (0, ()))), ())
            else none
          else none
        else none
      else obind (lex_great_v n (bt s0 j1)) fun y4 =>
      bif y4.fst then
        obind (lex_over_lex_one_1_v n s0 j1) fun y5 =>
        if 0 ≤ j1 then
          if j1 ≤ y5.fst then
            if y5.fst ≤ (↑(ByteArray.size s0) : Int) then
              bif decide ((↑(ByteArray.size (ByteArray.extract s0 (Int.toNat j1) (Int.toNat y5.fst))) : Int) > 32) then
                some (((2, (ByteArray.extract s0 (Int.toNat j1) (Int.toNat y5.fst), (0, (j1, ())))), (0, (71, ()))), ())
              else some (((2, (ByteArray.extract s0 (Int.toNat j1) (Int.toNat y5.fst), (0, (j1, ())))), (y5.fst, (0, ()))), ())
            else none
          else none
        else none
      else obind (lex_digit_v n (bt s0 j1)) fun y6 =>
      bif y6.fst then
        obind (lex_over_lex_digit_v n s0 (IntKind.wrap IntKind.i64 (j1 + 1))) fun y7 =>
        if 0 ≤ j1 then
          if j1 ≤ y7.fst then
            if y7.fst ≤ (↑(ByteArray.size s0) : Int) then
              obind (lex_number_v n (ByteArray.extract s0 (Int.toNat j1) (Int.toNat y7.fst))) fun y8 =>
              bif !y8.fst.snd.fst then
                some (((0, (ByteArray.mk #[], (0, (j1, ())))), (0, (70, ()))), ())
              else some (((3, (ByteArray.mk #[], (y8.fst.fst, (j1, ())))), (y7.fst, (0, ()))), ())
            else none
          else none
        else none
      else bif bt s0 j1 == 45 then
        obind (lex_over_lex_digit_v n s0 (IntKind.wrap IntKind.i64 (j1 + 1))) fun y9 =>
        if 0 ≤ j1 then
          if j1 ≤ y9.fst then
            if y9.fst ≤ (↑(ByteArray.size s0) : Int) then
              obind (lex_number_v n (ByteArray.extract s0 (Int.toNat j1) (Int.toNat y9.fst))) fun y10 =>
              bif !y10.fst.snd.fst then
                some (((0, (ByteArray.mk #[], (0, (j1, ())))), (0, (70, ()))), ())
              else some (((3, (ByteArray.mk #[], (y10.fst.fst, (j1, ())))), (y9.fst, (0, ()))), ())
            else none
          else none
        else none
      else bif bt s0 j1 == 34 then
        obind (lex_quoted_v n s0 j1) fun y11 =>
        bif !y11.fst.snd.snd.fst then
          some (((0, (ByteArray.mk #[], (0, (j1, ())))), (0, (70, ()))), ())
        else bif decide ((↑(ByteArray.size y11.fst.fst) : Int) > 32) then
          some (((4, (y11.fst.fst, (0, (j1, ())))), (0, (71, ()))), ())
        else some (((4, (y11.fst.fst, (0, (j1, ())))), (y11.fst.snd.fst, (0, ()))), ())
      else bif bt s0 j1 == 58 then
        bif decide (IntKind.wrap IntKind.i64 (j1 + 1) < (↑(ByteArray.size s0) : Int)) then
          if 0 ≤ IntKind.wrap IntKind.i64 (j1 + 1) then
            if IntKind.wrap IntKind.i64 (j1 + 1) < (↑(ByteArray.size s0) : Int) then
              bif bt s0 (IntKind.wrap IntKind.i64 (j1 + 1)) == 45 then
                if 0 ≤ j1 then
                  if j1 ≤ IntKind.wrap IntKind.i64 (IntKind.wrap IntKind.i64 (j1 + 1) + 1) then
                    if IntKind.wrap IntKind.i64 (IntKind.wrap IntKind.i64 (j1 + 1) + 1) ≤ (↑(ByteArray.size s0) : Int) then
                      bif decide ((↑(ByteArray.size (ByteArray.extract s0 (Int.toNat j1) (Int.toNat (IntKind.wrap IntKind.i64 (IntKind.wrap IntKind.i64 (j1 + 1) + 1))))) : Int) > 32) then
                        some (((5, (ByteArray.extract s0 (Int.toNat j1) (Int.toNat (IntKind.wrap IntKind.i64 (IntKind.wrap IntKind.i64 (j1 + 1) + 1))), (0, (j1, ())))), (0, (71, ()))), ())
                      else some (((5, (ByteArray.extract s0 (Int.toNat j1) (Int.toNat (IntKind.wrap IntKind.i64 (IntKind.wrap IntKind.i64 (j1 + 1) + 1))), (0, (j1, ())))), (IntKind.wrap IntKind.i64 (IntKind.wrap IntKind.i64 (j1 + 1) + 1), (0, ()))), ())
                    else none
                  else none
                else none
              else bif bt s0 j1 == 40 then
                if 0 ≤ j1 then
                  if j1 ≤ IntKind.wrap IntKind.i64 (j1 + 1) then
                    if IntKind.wrap IntKind.i64 (j1 + 1) ≤ (↑(ByteArray.size s0) : Int) then
                      bif decide ((↑(ByteArray.size (ByteArray.extract s0 (Int.toNat j1) (Int.toNat (IntKind.wrap IntKind.i64 (j1 + 1))))) : Int) > 32) then
                        some (((5, (ByteArray.extract s0 (Int.toNat j1) (Int.toNat (IntKind.wrap IntKind.i64 (j1 + 1))), (0, (j1, ())))), (0, (71, ()))), ())
                      else some (((5, (ByteArray.extract s0 (Int.toNat j1) (Int.toNat (IntKind.wrap IntKind.i64 (j1 + 1))), (0, (j1, ())))), (IntKind.wrap IntKind.i64 (j1 + 1), (0, ()))), ())
                    else none
                  else none
                else none
              else bif bt s0 j1 == 41 then
                if 0 ≤ j1 then
                  if j1 ≤ IntKind.wrap IntKind.i64 (j1 + 1) then
                    if IntKind.wrap IntKind.i64 (j1 + 1) ≤ (↑(ByteArray.size s0) : Int) then
                      bif decide ((↑(ByteArray.size (ByteArray.extract s0 (Int.toNat j1) (Int.toNat (IntKind.wrap IntKind.i64 (j1 + 1))))) : Int) > 32) then
                        some (((5, (ByteArray.extract s0 (Int.toNat j1) (Int.toNat (IntKind.wrap IntKind.i64 (j1 + 1))), (0, (j1, ())))), (0, (71, ()))), ())
                      else some (((5, (ByteArray.extract s0 (Int.toNat j1) (Int.toNat (IntKind.wrap IntKind.i64 (j1 + 1))), (0, (j1, ())))), (IntKind.wrap IntKind.i64 (j1 + 1), (0, ()))), ())
                    else none
                  else none
                else none
              else bif bt s0 j1 == 44 then
                if 0 ≤ j1 then
                  if j1 ≤ IntKind.wrap IntKind.i64 (j1 + 1) then
                    if IntKind.wrap IntKind.i64 (j1 + 1) ≤ (↑(ByteArray.size s0) : Int) then
                      bif decide ((↑(ByteArray.size (ByteArray.extract s0 (Int.toNat j1) (Int.toNat (IntKind.wrap IntKind.i64 (j1 + 1))))) : Int) > 32) then
                        some (((5, (ByteArray.extract s0 (Int.toNat j1) (Int.toNat (IntKind.wrap IntKind.i64 (j1 + 1))), (0, (j1, ())))), (0, (71, ()))), ())
                      else some (((5, (ByteArray.extract s0 (Int.toNat j1) (Int.toNat (IntKind.wrap IntKind.i64 (j1 + 1))), (0, (j1, ())))), (IntKind.wrap IntKind.i64 (j1 + 1), (0, ()))), ())
                    else none
                  else none
                else none
              else bif bt s0 j1 == 46 then
                if 0 ≤ j1 then
                  if j1 ≤ IntKind.wrap IntKind.i64 (j1 + 1) then
                    if IntKind.wrap IntKind.i64 (j1 + 1) ≤ (↑(ByteArray.size s0) : Int) then
                      bif decide ((↑(ByteArray.size (ByteArray.extract s0 (Int.toNat j1) (Int.toNat (IntKind.wrap IntKind.i64 (j1 + 1))))) : Int) > 32) then
                        some (((5, (ByteArray.extract s0 (Int.toNat j1) (Int.toNat (IntKind.wrap IntKind.i64 (j1 + 1))), (0, (j1, ())))), (0, (71, ()))), ())
                      else some (((5, (ByteArray.extract s0 (Int.toNat j1) (Int.toNat (IntKind.wrap IntKind.i64 (j1 + 1))), (0, (j1, ())))), (IntKind.wrap IntKind.i64 (j1 + 1), (0, ()))), ())
                    else none
                  else none
                else none
              else bif bt s0 j1 == 58 then
                if 0 ≤ j1 then
                  if j1 ≤ IntKind.wrap IntKind.i64 (j1 + 1) then
                    if IntKind.wrap IntKind.i64 (j1 + 1) ≤ (↑(ByteArray.size s0) : Int) then
                      bif decide ((↑(ByteArray.size (ByteArray.extract s0 (Int.toNat j1) (Int.toNat (IntKind.wrap IntKind.i64 (j1 + 1))))) : Int) > 32) then
                        some (((5, (ByteArray.extract s0 (Int.toNat j1) (Int.toNat (IntKind.wrap IntKind.i64 (j1 + 1))), (0, (j1, ())))), (0, (71, ()))), ())
                      else some (((5, (ByteArray.extract s0 (Int.toNat j1) (Int.toNat (IntKind.wrap IntKind.i64 (j1 + 1))), (0, (j1, ())))), (IntKind.wrap IntKind.i64 (j1 + 1), (0, ()))), ())
                    else none
                  else none
                else none
              else some (((0, (ByteArray.mk #[], (0, (j1, ())))), (0, (70, ()))), ())
            else none
          else none
        else bif bt s0 j1 == 40 then
          if 0 ≤ j1 then
            if j1 ≤ IntKind.wrap IntKind.i64 (j1 + 1) then
              if IntKind.wrap IntKind.i64 (j1 + 1) ≤ (↑(ByteArray.size s0) : Int) then
                bif decide ((↑(ByteArray.size (ByteArray.extract s0 (Int.toNat j1) (Int.toNat (IntKind.wrap IntKind.i64 (j1 + 1))))) : Int) > 32) then
                  some (((5, (ByteArray.extract s0 (Int.toNat j1) (Int.toNat (IntKind.wrap IntKind.i64 (j1 + 1))), (0, (j1, ())))), (0, (71, ()))), ())
                else some (((5, (ByteArray.extract s0 (Int.toNat j1) (Int.toNat (IntKind.wrap IntKind.i64 (j1 + 1))), (0, (j1, ())))), (IntKind.wrap IntKind.i64 (j1 + 1), (0, ()))), ())
              else none
            else none
          else none
        else bif bt s0 j1 == 41 then
          if 0 ≤ j1 then
            if j1 ≤ IntKind.wrap IntKind.i64 (j1 + 1) then
              if IntKind.wrap IntKind.i64 (j1 + 1) ≤ (↑(ByteArray.size s0) : Int) then
                bif decide ((↑(ByteArray.size (ByteArray.extract s0 (Int.toNat j1) (Int.toNat (IntKind.wrap IntKind.i64 (j1 + 1))))) : Int) > 32) then
                  some (((5, (ByteArray.extract s0 (Int.toNat j1) (Int.toNat (IntKind.wrap IntKind.i64 (j1 + 1))), (0, (j1, ())))), (0, (71, ()))), ())
                else some (((5, (ByteArray.extract s0 (Int.toNat j1) (Int.toNat (IntKind.wrap IntKind.i64 (j1 + 1))), (0, (j1, ())))), (IntKind.wrap IntKind.i64 (j1 + 1), (0, ()))), ())
              else none
            else none
          else none
        else bif bt s0 j1 == 44 then
          if 0 ≤ j1 then
            if j1 ≤ IntKind.wrap IntKind.i64 (j1 + 1) then
              if IntKind.wrap IntKind.i64 (j1 + 1) ≤ (↑(ByteArray.size s0) : Int) then
                bif decide ((↑(ByteArray.size (ByteArray.extract s0 (Int.toNat j1) (Int.toNat (IntKind.wrap IntKind.i64 (j1 + 1))))) : Int) > 32) then
                  some (((5, (ByteArray.extract s0 (Int.toNat j1) (Int.toNat (IntKind.wrap IntKind.i64 (j1 + 1))), (0, (j1, ())))), (0, (71, ()))), ())
                else some (((5, (ByteArray.extract s0 (Int.toNat j1) (Int.toNat (IntKind.wrap IntKind.i64 (j1 + 1))), (0, (j1, ())))), (IntKind.wrap IntKind.i64 (j1 + 1), (0, ()))), ())
              else none
            else none
          else none
        else bif bt s0 j1 == 46 then
          if 0 ≤ j1 then
            if j1 ≤ IntKind.wrap IntKind.i64 (j1 + 1) then
              if IntKind.wrap IntKind.i64 (j1 + 1) ≤ (↑(ByteArray.size s0) : Int) then
                bif decide ((↑(ByteArray.size (ByteArray.extract s0 (Int.toNat j1) (Int.toNat (IntKind.wrap IntKind.i64 (j1 + 1))))) : Int) > 32) then
                  some (((5, (ByteArray.extract s0 (Int.toNat j1) (Int.toNat (IntKind.wrap IntKind.i64 (j1 + 1))), (0, (j1, ())))), (0, (71, ()))), ())
                else some (((5, (ByteArray.extract s0 (Int.toNat j1) (Int.toNat (IntKind.wrap IntKind.i64 (j1 + 1))), (0, (j1, ())))), (IntKind.wrap IntKind.i64 (j1 + 1), (0, ()))), ())
              else none
            else none
          else none
        else bif bt s0 j1 == 58 then
          if 0 ≤ j1 then
            if j1 ≤ IntKind.wrap IntKind.i64 (j1 + 1) then
              if IntKind.wrap IntKind.i64 (j1 + 1) ≤ (↑(ByteArray.size s0) : Int) then
                bif decide ((↑(ByteArray.size (ByteArray.extract s0 (Int.toNat j1) (Int.toNat (IntKind.wrap IntKind.i64 (j1 + 1))))) : Int) > 32) then
                  some (((5, (ByteArray.extract s0 (Int.toNat j1) (Int.toNat (IntKind.wrap IntKind.i64 (j1 + 1))), (0, (j1, ())))), (0, (71, ()))), ())
                else some (((5, (ByteArray.extract s0 (Int.toNat j1) (Int.toNat (IntKind.wrap IntKind.i64 (j1 + 1))), (0, (j1, ())))), (IntKind.wrap IntKind.i64 (j1 + 1), (0, ()))), ())
              else none
            else none
          else none
        else some (((0, (ByteArray.mk #[], (0, (j1, ())))), (0, (70, ()))), ())
      else bif bt s0 j1 == 40 then
        if 0 ≤ j1 then
          if j1 ≤ IntKind.wrap IntKind.i64 (j1 + 1) then
            if IntKind.wrap IntKind.i64 (j1 + 1) ≤ (↑(ByteArray.size s0) : Int) then
              bif decide ((↑(ByteArray.size (ByteArray.extract s0 (Int.toNat j1) (Int.toNat (IntKind.wrap IntKind.i64 (j1 + 1))))) : Int) > 32) then
                some (((5, (ByteArray.extract s0 (Int.toNat j1) (Int.toNat (IntKind.wrap IntKind.i64 (j1 + 1))), (0, (j1, ())))), (0, (71, ()))), ())
              else some (((5, (ByteArray.extract s0 (Int.toNat j1) (Int.toNat (IntKind.wrap IntKind.i64 (j1 + 1))), (0, (j1, ())))), (IntKind.wrap IntKind.i64 (j1 + 1), (0, ()))), ())
            else none
          else none
        else none
      else bif bt s0 j1 == 41 then
        if 0 ≤ j1 then
          if j1 ≤ IntKind.wrap IntKind.i64 (j1 + 1) then
            if IntKind.wrap IntKind.i64 (j1 + 1) ≤ (↑(ByteArray.size s0) : Int) then
              bif decide ((↑(ByteArray.size (ByteArray.extract s0 (Int.toNat j1) (Int.toNat (IntKind.wrap IntKind.i64 (j1 + 1))))) : Int) > 32) then
                some (((5, (ByteArray.extract s0 (Int.toNat j1) (Int.toNat (IntKind.wrap IntKind.i64 (j1 + 1))), (0, (j1, ())))), (0, (71, ()))), ())
              else some (((5, (ByteArray.extract s0 (Int.toNat j1) (Int.toNat (IntKind.wrap IntKind.i64 (j1 + 1))), (0, (j1, ())))), (IntKind.wrap IntKind.i64 (j1 + 1), (0, ()))), ())
            else none
          else none
        else none
      else bif bt s0 j1 == 44 then
        if 0 ≤ j1 then
          if j1 ≤ IntKind.wrap IntKind.i64 (j1 + 1) then
            if IntKind.wrap IntKind.i64 (j1 + 1) ≤ (↑(ByteArray.size s0) : Int) then
              bif decide ((↑(ByteArray.size (ByteArray.extract s0 (Int.toNat j1) (Int.toNat (IntKind.wrap IntKind.i64 (j1 + 1))))) : Int) > 32) then
                some (((5, (ByteArray.extract s0 (Int.toNat j1) (Int.toNat (IntKind.wrap IntKind.i64 (j1 + 1))), (0, (j1, ())))), (0, (71, ()))), ())
              else some (((5, (ByteArray.extract s0 (Int.toNat j1) (Int.toNat (IntKind.wrap IntKind.i64 (j1 + 1))), (0, (j1, ())))), (IntKind.wrap IntKind.i64 (j1 + 1), (0, ()))), ())
            else none
          else none
        else none
      else bif bt s0 j1 == 46 then
        if 0 ≤ j1 then
          if j1 ≤ IntKind.wrap IntKind.i64 (j1 + 1) then
            if IntKind.wrap IntKind.i64 (j1 + 1) ≤ (↑(ByteArray.size s0) : Int) then
              bif decide ((↑(ByteArray.size (ByteArray.extract s0 (Int.toNat j1) (Int.toNat (IntKind.wrap IntKind.i64 (j1 + 1))))) : Int) > 32) then
                some (((5, (ByteArray.extract s0 (Int.toNat j1) (Int.toNat (IntKind.wrap IntKind.i64 (j1 + 1))), (0, (j1, ())))), (0, (71, ()))), ())
              else some (((5, (ByteArray.extract s0 (Int.toNat j1) (Int.toNat (IntKind.wrap IntKind.i64 (j1 + 1))), (0, (j1, ())))), (IntKind.wrap IntKind.i64 (j1 + 1), (0, ()))), ())
            else none
          else none
        else none
      else bif bt s0 j1 == 58 then
        if 0 ≤ j1 then
          if j1 ≤ IntKind.wrap IntKind.i64 (j1 + 1) then
            if IntKind.wrap IntKind.i64 (j1 + 1) ≤ (↑(ByteArray.size s0) : Int) then
              bif decide ((↑(ByteArray.size (ByteArray.extract s0 (Int.toNat j1) (Int.toNat (IntKind.wrap IntKind.i64 (j1 + 1))))) : Int) > 32) then
                some (((5, (ByteArray.extract s0 (Int.toNat j1) (Int.toNat (IntKind.wrap IntKind.i64 (j1 + 1))), (0, (j1, ())))), (0, (71, ()))), ())
              else some (((5, (ByteArray.extract s0 (Int.toNat j1) (Int.toNat (IntKind.wrap IntKind.i64 (j1 + 1))), (0, (j1, ())))), (IntKind.wrap IntKind.i64 (j1 + 1), (0, ()))), ())
            else none
          else none
        else none
      else some (((0, (ByteArray.mk #[], (0, (j1, ())))), (0, (70, ()))), ())
    else none
  else none := by kernel_rfl
theorem lex_one_c (n : Nat) (s0 : ByteArray) (j1 : Int) (y : ((Int × ByteArray × Int × Int × Unit) × Int × Int × Unit) × Unit) (h : lex_one_v n s0 j1 = some y) : Contract Try.prog 27 [AV.dv (DV.val (Value.string s0)), AV.dv (DV.val (Value.int IntKind.i64 j1))] [] (OSh.enc (OSh.plain (.tup [.agg [.i IntKind.i64, .s, .i IntKind.i64, .i IntKind.i64], .i IntKind.i64, .i IntKind.i64]) []) y) :=
  auto_okM tm_std (with_ok mixed (by kernel_rfl) (lex_one_σok n) n 0 []) (with_pick mixed (by kernel_rfl) (lex_one_σok n) n 0 []) mixed Try.func27 (by decide) (o := (OSh.plain (.tup [.agg [.i IntKind.i64, .s, .i IntKind.i64, .i IntKind.i64], .i IntKind.i64, .i IntKind.i64]) [])) h
/-! lex_Tokens: function 14 -/
def lex_Tokens_lv : Live := [(4, [0, 2, 3], [1000, 1001, 1002, 1003])]
noncomputable def lex_Tokens_σ (n : Nat) : Spec := (inst 26 [.s, .i IntKind.i64] [] (OSh.plain (.i IntKind.i64) []) (fun x e => lex_skip_v n x.1 x.2.1) (inst 27 [.s, .i IntKind.i64] [] (OSh.plain (.tup [.agg [.i IntKind.i64, .s, .i IntKind.i64, .i IntKind.i64], .i IntKind.i64, .i IntKind.i64]) []) (fun x e => lex_one_v n x.1 x.2.1) Spec.none))
theorem lex_Tokens_σok (n : Nat) : SpecOk Try.prog (lex_Tokens_σ n) := (inst_ok (fun x e y h => lex_skip_c n x.1 x.2.1 y h) (inst_ok (fun x e y h => lex_one_c n x.1 x.2.1 y h) (SpecOk.none _)))
noncomputable def lex_Tokens_Φ (n : Nat) : Orc := with_ Try.prog (lex_Tokens_σ n) [] n 0 []
noncomputable def lex_Tokens_v (n : Nat) (s0 : ByteArray) : Option (((Bool × Rows) × Int × Int × Unit) × Unit) :=
  DM.denFn tm (lex_Tokens_Φ n) lex_Tokens_lv n Try.f14 true [AV.dv (DV.val (Value.string s0))] [] (OSh.chk (OSh.plain (.tup [.slt [Kd.i IntKind.i64, Kd.s, Kd.i IntKind.i64, Kd.i IntKind.i64] 0, .i IntKind.i64, .i IntKind.i64]) []))
noncomputable def lex_Tokens_l4 (n : Nat) (s0 : ByteArray) (i0 : Nat) (j2 : Int) (b5 : Bool) (r6 : List (List DV)) : Option (((Bool × Rows) × Int × Int × Unit) × Unit) :=
  DM.loopFn tm (lex_Tokens_Φ n) lex_Tokens_lv n Try.f14 true [] (OSh.chk (OSh.plain (.tup [.slt [Kd.i IntKind.i64, Kd.s, Kd.i IntKind.i64, Kd.i IntKind.i64] 0, .i IntKind.i64, .i IntKind.i64]) [])) 4 [] i0 (St.mk [AV.dv (DV.val (Value.string s0)), AV.junk, AV.sl b5 [Kd.i IntKind.i64, Kd.s, Kd.i IntKind.i64, Kd.i IntKind.i64] r6 (Right.tok 2), AV.dv (DV.val (Value.int IntKind.i64 j2)), AV.junk, AV.junk, AV.junk, AV.junk, AV.junk, AV.junk, AV.junk, AV.junk, AV.junk, AV.junk, AV.junk, AV.junk, AV.junk, AV.junk, AV.junk, AV.junk, AV.junk, AV.junk, AV.junk, AV.junk, AV.junk, AV.junk, AV.junk, AV.junk, AV.junk, AV.junk, AV.junk, AV.junk, AV.junk, AV.junk, AV.junk, AV.junk] [])
theorem lex_Tokens_s4 (n : Nat) (s0 : ByteArray) (i0 : Nat) (j2 : Int) (b5 : Bool) (r6 : List (List DV)) : lex_Tokens_l4 n s0 (i0 + 1) j2 b5 r6 =
  bif decide (j2 < (↑(ByteArray.size s0) : Int)) then
    obind (lex_one_v n s0 j2) fun y7 =>
    bif y7.fst.snd.snd.fst != 0 then
      some (((true, []), (j2, (y7.fst.snd.snd.fst, ()))), ())
    else if List.length r6 + List.length [[DV.val (Value.int IntKind.i64 y7.fst.fst.fst), DV.val (Value.string y7.fst.fst.snd.fst), DV.val (Value.int IntKind.i64 y7.fst.fst.snd.snd.fst), DV.val (Value.int IntKind.i64 y7.fst.fst.snd.snd.snd.fst)]] < 2147483648 then
      obind (lex_skip_v n s0 y7.fst.snd.fst) fun y8 =>
      lex_Tokens_l4 n s0 i0 y8.fst (b5 && List.isEmpty [[DV.val (Value.int IntKind.i64 y7.fst.fst.fst), DV.val (Value.string y7.fst.fst.snd.fst), DV.val (Value.int IntKind.i64 y7.fst.fst.snd.snd.fst), DV.val (Value.int IntKind.i64 y7.fst.fst.snd.snd.snd.fst)]]) (appX r6 [[DV.val (Value.int IntKind.i64 y7.fst.fst.fst), DV.val (Value.string y7.fst.fst.snd.fst), DV.val (Value.int IntKind.i64 y7.fst.fst.snd.snd.fst), DV.val (Value.int IntKind.i64 y7.fst.fst.snd.snd.snd.fst)]])
    else none
  else some (((b5, r6), (0, (0, ()))), ()) := by kernel_rfl
theorem lex_Tokens_e (n : Nat) (s0 : ByteArray) : lex_Tokens_v n s0 =
  bif decide ((↑(ByteArray.size s0) : Int) > 4096) then
    some (((true, []), (0, (3, ()))), ())
  else obind (lex_skip_v n s0 0) fun y1 =>
  lex_Tokens_l4 n s0 n y1.fst true [] := by kernel_rfl
theorem lex_Tokens_c (n : Nat) (s0 : ByteArray) (y : ((Bool × Rows) × Int × Int × Unit) × Unit) (h : lex_Tokens_v n s0 = some y) : Contract Try.prog 14 [AV.dv (DV.val (Value.string s0))] [] (OSh.enc (OSh.plain (.tup [.slt [Kd.i IntKind.i64, Kd.s, Kd.i IntKind.i64, Kd.i IntKind.i64] 0, .i IntKind.i64, .i IntKind.i64]) []) y) :=
  auto_okM tm_std (with_ok mixed (by kernel_rfl) (lex_Tokens_σok n) n 0 []) (with_pick mixed (by kernel_rfl) (lex_Tokens_σok n) n 0 []) mixed Try.func14 (by decide) (o := (OSh.plain (.tup [.slt [Kd.i IntKind.i64, Kd.s, Kd.i IntKind.i64, Kd.i IntKind.i64] 0, .i IntKind.i64, .i IntKind.i64]) [])) h
/-! ref07_Skip: function 20 -/
def ref07_Skip_lv : Live := [(2, [0, 1, 5], [1000, 1001, 1002, 1003])]
noncomputable def ref07_Skip_σ (n : Nat) : Spec := Spec.none
theorem ref07_Skip_σok (n : Nat) : SpecOk Try.prog (ref07_Skip_σ n) := (SpecOk.none _)
noncomputable def ref07_Skip_Φ (n : Nat) : Orc := with_ Try.prog (ref07_Skip_σ n) [] n 0 []
noncomputable def ref07_Skip_v (n : Nat) (s0 : ByteArray) (j1 : Int) : Option (Int × Unit) :=
  DM.denFn tm (ref07_Skip_Φ n) ref07_Skip_lv n Try.f20 false [AV.dv (DV.val (Value.string s0)), AV.dv (DV.val (Value.int IntKind.i64 j1))] [] (OSh.chk (OSh.plain (.i IntKind.i64) []))
noncomputable def ref07_Skip_l2 (n : Nat) (s0 : ByteArray) (j1 : Int) (i0 : Nat) (j2 : Int) (b3 : Bool) : Option (Int × Unit) :=
  DM.loopFn tm (ref07_Skip_Φ n) ref07_Skip_lv n Try.f20 false [] (OSh.chk (OSh.plain (.i IntKind.i64) [])) 2 [] i0 (St.mk [AV.dv (DV.val (Value.string s0)), AV.dv (DV.val (Value.int IntKind.i64 j2)), AV.junk, AV.junk, AV.junk, AV.dv (DV.val (Value.bool b3)), AV.junk, AV.junk, AV.junk, AV.junk, AV.junk, AV.junk, AV.junk, AV.junk, AV.junk, AV.junk, AV.junk, AV.junk, AV.junk, AV.junk, AV.junk, AV.junk, AV.junk, AV.junk, AV.junk, AV.junk, AV.junk, AV.junk, AV.junk, AV.junk, AV.junk, AV.junk, AV.junk, AV.junk, AV.junk, AV.junk, AV.junk, AV.junk, AV.junk, AV.junk] [])
theorem ref07_Skip_s2 (n : Nat) (s0 : ByteArray) (j1 : Int) (i0 : Nat) (j2 : Int) (b3 : Bool) : ref07_Skip_l2 n s0 j1 (i0 + 1) j2 b3 =
  bif decide (j2 < (↑(ByteArray.size s0) : Int)) then
    if 0 ≤ j2 then
      if j2 < (↑(ByteArray.size s0) : Int) then
        bif bt s0 j2 == 10 then
          bif bt s0 j2 == 37 then
            ref07_Skip_l2 n s0 j1 i0 (IntKind.wrap IntKind.i64 (j2 + 1)) true
          else bif bt s0 j2 != 32 then
            bif bt s0 j2 != 9 then
              bif bt s0 j2 != 10 then
                bif bt s0 j2 != 13 then
                  some (j2, ())
                else ref07_Skip_l2 n s0 j1 i0 (IntKind.wrap IntKind.i64 (j2 + 1)) false
              else ref07_Skip_l2 n s0 j1 i0 (IntKind.wrap IntKind.i64 (j2 + 1)) false
            else ref07_Skip_l2 n s0 j1 i0 (IntKind.wrap IntKind.i64 (j2 + 1)) false
          else ref07_Skip_l2 n s0 j1 i0 (IntKind.wrap IntKind.i64 (j2 + 1)) false
        else bif bt s0 j2 == 37 then
          ref07_Skip_l2 n s0 j1 i0 (IntKind.wrap IntKind.i64 (j2 + 1)) true
        else bif !b3 then
          bif bt s0 j2 != 32 then
            bif bt s0 j2 != 9 then
              bif bt s0 j2 != 10 then
                bif bt s0 j2 != 13 then
                  some (j2, ())
                else ref07_Skip_l2 n s0 j1 i0 (IntKind.wrap IntKind.i64 (j2 + 1)) b3
              else ref07_Skip_l2 n s0 j1 i0 (IntKind.wrap IntKind.i64 (j2 + 1)) b3
            else ref07_Skip_l2 n s0 j1 i0 (IntKind.wrap IntKind.i64 (j2 + 1)) b3
          else ref07_Skip_l2 n s0 j1 i0 (IntKind.wrap IntKind.i64 (j2 + 1)) b3
        else ref07_Skip_l2 n s0 j1 i0 (IntKind.wrap IntKind.i64 (j2 + 1)) b3
      else none
    else none
  else some (j2, ()) := by kernel_rfl
theorem ref07_Skip_e (n : Nat) (s0 : ByteArray) (j1 : Int) : ref07_Skip_v n s0 j1 =
  ref07_Skip_l2 n s0 j1 n j1 false := by kernel_rfl
theorem ref07_Skip_c (n : Nat) (s0 : ByteArray) (j1 : Int) (y : Int × Unit) (h : ref07_Skip_v n s0 j1 = some y) : Contract Try.prog 20 [AV.dv (DV.val (Value.string s0)), AV.dv (DV.val (Value.int IntKind.i64 j1))] [] (OSh.enc (OSh.plain (.i IntKind.i64) []) y) :=
  auto_okM tm_std (with_ok mixed (by kernel_rfl) (ref07_Skip_σok n) n 0 []) (with_pick mixed (by kernel_rfl) (ref07_Skip_σok n) n 0 []) mixed Try.func20 (by decide) (o := (OSh.plain (.i IntKind.i64) [])) h
/-! ref07_small: function 28 -/
def ref07_small_lv : Live := []
noncomputable def ref07_small_σ (n : Nat) : Spec := Spec.none
theorem ref07_small_σok (n : Nat) : SpecOk Try.prog (ref07_small_σ n) := (SpecOk.none _)
noncomputable def ref07_small_Φ (n : Nat) : Orc := with_ Try.prog (ref07_small_σ n) [] n 0 []
noncomputable def ref07_small_v (n : Nat) (j0 : Int) : Option (Bool × Unit) :=
  DM.denFn tm (ref07_small_Φ n) ref07_small_lv n Try.f28 false [AV.dv (DV.val (Value.int IntKind.u8 j0))] [] (OSh.chk (OSh.plain (.b) []))
theorem ref07_small_e (n : Nat) (j0 : Int) : ref07_small_v n j0 =
  bif decide (j0 ≥ 97) then
    some (decide (j0 ≤ 122), ())
  else some (false, ()) := by kernel_rfl
theorem ref07_small_c (n : Nat) (j0 : Int) (y : Bool × Unit) (h : ref07_small_v n j0 = some y) : Contract Try.prog 28 [AV.dv (DV.val (Value.int IntKind.u8 j0))] [] (OSh.enc (OSh.plain (.b) []) y) :=
  auto_okM tm_std (with_ok mixed (by kernel_rfl) (ref07_small_σok n) n 0 []) (with_pick mixed (by kernel_rfl) (ref07_small_σok n) n 0 []) mixed Try.func28 (by decide) (o := (OSh.plain (.b) [])) h
/-! ref07_great: function 29 -/
def ref07_great_lv : Live := []
noncomputable def ref07_great_σ (n : Nat) : Spec := Spec.none
theorem ref07_great_σok (n : Nat) : SpecOk Try.prog (ref07_great_σ n) := (SpecOk.none _)
noncomputable def ref07_great_Φ (n : Nat) : Orc := with_ Try.prog (ref07_great_σ n) [] n 0 []
noncomputable def ref07_great_v (n : Nat) (j0 : Int) : Option (Bool × Unit) :=
  DM.denFn tm (ref07_great_Φ n) ref07_great_lv n Try.f29 false [AV.dv (DV.val (Value.int IntKind.u8 j0))] [] (OSh.chk (OSh.plain (.b) []))
theorem ref07_great_e (n : Nat) (j0 : Int) : ref07_great_v n j0 =
  bif decide (j0 ≥ 65) then
    some (decide (j0 ≤ 90), ())
  else some (false, ()) := by kernel_rfl
theorem ref07_great_c (n : Nat) (j0 : Int) (y : Bool × Unit) (h : ref07_great_v n j0 = some y) : Contract Try.prog 29 [AV.dv (DV.val (Value.int IntKind.u8 j0))] [] (OSh.enc (OSh.plain (.b) []) y) :=
  auto_okM tm_std (with_ok mixed (by kernel_rfl) (ref07_great_σok n) n 0 []) (with_pick mixed (by kernel_rfl) (ref07_great_σok n) n 0 []) mixed Try.func29 (by decide) (o := (OSh.plain (.b) [])) h
/-! ref07_digit: function 31 -/
def ref07_digit_lv : Live := []
noncomputable def ref07_digit_σ (n : Nat) : Spec := Spec.none
theorem ref07_digit_σok (n : Nat) : SpecOk Try.prog (ref07_digit_σ n) := (SpecOk.none _)
noncomputable def ref07_digit_Φ (n : Nat) : Orc := with_ Try.prog (ref07_digit_σ n) [] n 0 []
noncomputable def ref07_digit_v (n : Nat) (j0 : Int) : Option (Bool × Unit) :=
  DM.denFn tm (ref07_digit_Φ n) ref07_digit_lv n Try.f31 false [AV.dv (DV.val (Value.int IntKind.u8 j0))] [] (OSh.chk (OSh.plain (.b) []))
theorem ref07_digit_e (n : Nat) (j0 : Int) : ref07_digit_v n j0 =
  bif decide (j0 ≥ 48) then
    some (decide (j0 ≤ 57), ())
  else some (false, ()) := by kernel_rfl
theorem ref07_digit_c (n : Nat) (j0 : Int) (y : Bool × Unit) (h : ref07_digit_v n j0 = some y) : Contract Try.prog 31 [AV.dv (DV.val (Value.int IntKind.u8 j0))] [] (OSh.enc (OSh.plain (.b) []) y) :=
  auto_okM tm_std (with_ok mixed (by kernel_rfl) (ref07_digit_σok n) n 0 []) (with_pick mixed (by kernel_rfl) (ref07_digit_σok n) n 0 []) mixed Try.func31 (by decide) (o := (OSh.plain (.b) [])) h
/-! ref07_number: function 32 -/
def ref07_number_lv : Live := [(6, [0, 1, 4, 6, 7, 8], [4, 1000, 1001, 1002, 1003])]
noncomputable def ref07_number_σ (n : Nat) : Spec := (inst 31 [.i IntKind.u8] [] (OSh.plain (.b) []) (fun x e => ref07_digit_v n x.1) Spec.none)
theorem ref07_number_σok (n : Nat) : SpecOk Try.prog (ref07_number_σ n) := (inst_ok (fun x e y h => ref07_digit_c n x.1 y h) (SpecOk.none _))
noncomputable def ref07_number_Φ (n : Nat) : Orc := with_ Try.prog (ref07_number_σ n) [] n 0 []
noncomputable def ref07_number_v (n : Nat) (s0 : ByteArray) (j1 : Int) : Option (((Int × ByteArray × Int × Int × Unit) × Int × Unit) × Unit) :=
  DM.denFn tm (ref07_number_Φ n) ref07_number_lv n Try.f32 false [AV.dv (DV.val (Value.string s0)), AV.dv (DV.val (Value.int IntKind.i64 j1))] [] (OSh.chk (OSh.plain (.tup [.agg [.i IntKind.i64, .s, .i IntKind.i64, .i IntKind.i64], .i IntKind.i64]) []))
noncomputable def ref07_number_l6 (n : Nat) (s0 : ByteArray) (j1 : Int) (i0 : Nat) (j2 : Int) (j3 : Int) (j5 : Int) : Option (((Int × ByteArray × Int × Int × Unit) × Int × Unit) × Unit) :=
  DM.loopFn tm (ref07_number_Φ n) ref07_number_lv n Try.f32 false [] (OSh.chk (OSh.plain (.tup [.agg [.i IntKind.i64, .s, .i IntKind.i64, .i IntKind.i64], .i IntKind.i64]) [])) 6 [] i0 (St.mk [AV.dv (DV.val (Value.string s0)), AV.dv (DV.val (Value.int IntKind.i64 j1)), AV.junk, AV.junk, AV.pl 4 0, AV.junk, AV.dv (DV.val (Value.int IntKind.i64 j2)), AV.dv (DV.val (Value.int IntKind.i64 j3)), AV.dv (DV.val (Value.int IntKind.i64 j5)), AV.junk, AV.junk, AV.junk, AV.junk, AV.junk, AV.junk, AV.junk, AV.junk, AV.junk, AV.junk, AV.junk, AV.junk, AV.junk, AV.junk, AV.junk, AV.junk, AV.junk, AV.junk, AV.junk, AV.junk, AV.junk, AV.junk, AV.junk, AV.junk, AV.junk, AV.junk, AV.junk, AV.junk, AV.junk, AV.junk, AV.junk, AV.junk, AV.junk, AV.junk, AV.junk, AV.junk, AV.junk, AV.junk, AV.junk, AV.junk, AV.junk, AV.junk, AV.junk, AV.junk, AV.junk, AV.junk, AV.junk, AV.junk, AV.junk, AV.junk, AV.junk, AV.junk, AV.junk, AV.junk, AV.junk, AV.junk, AV.junk, AV.junk, AV.junk, AV.junk, AV.junk, AV.junk, AV.junk, AV.junk, AV.junk, AV.junk, AV.junk, AV.junk, AV.junk] [(4, [AV.dv (DV.val (Value.int IntKind.i64 0)), AV.dv (DV.val (Value.string (ByteArray.mk #[]))), AV.dv (DV.val (Value.int IntKind.i64 0)), AV.dv (DV.val (Value.int IntKind.i64 0))])])
theorem ref07_number_s6 (n : Nat) (s0 : ByteArray) (j1 : Int) (i0 : Nat) (j2 : Int) (j3 : Int) (j5 : Int) : ref07_number_l6 n s0 j1 (i0 + 1) j2 j3 j5 =
  bif decide (j2 < (↑(ByteArray.size s0) : Int)) then
    if 0 ≤ j2 then
      if j2 < (↑(ByteArray.size s0) : Int) then
        obind (ref07_digit_v n (bt s0 j2)) fun y6 =>
        bif y6.fst then
          if 0 ≤ j2 then
            if j2 < (↑(ByteArray.size s0) : Int) then
              bif decide (j5 < IntKind.wrap IntKind.i64 (Int.tdiv (IntKind.wrap IntKind.i64 (-9223372036854775808 + IntKind.wrap IntKind.i64 (IntKind.wrap IntKind.u8 (bt s0 j2 - 48)))) 10)) then
                some (((0, (ByteArray.mk #[], (0, (0, ())))), (-1, ())), ())
              else ref07_number_l6 n s0 j1 i0 (IntKind.wrap IntKind.i64 (j2 + 1)) j3 (IntKind.wrap IntKind.i64 (IntKind.wrap IntKind.i64 (10 * j5) - IntKind.wrap IntKind.i64 (IntKind.wrap IntKind.u8 (bt s0 j2 - 48))))
            else none
          else none
        else bif j2 == j3 then
          some (((0, (ByteArray.mk #[], (0, (0, ())))), (-1, ())), ())
        else if 0 ≤ j3 then
          if j3 < (↑(ByteArray.size s0) : Int) then
            bif bt s0 j3 == 48 then
              bif decide (j2 > IntKind.wrap IntKind.i64 (j3 + 1)) then
                some (((0, (ByteArray.mk #[], (0, (0, ())))), (-1, ())), ())
              else bif decide (j3 > j1) then
                some (((0, (ByteArray.mk #[], (0, (0, ())))), (-1, ())), ())
              else bif j3 == j1 then
                bif j5 == -9223372036854775808 then
                  some (((0, (ByteArray.mk #[], (0, (0, ())))), (-1, ())), ())
                else some (((3, (ByteArray.mk #[], (IntKind.wrap IntKind.i64 (0 - j5), (j1, ())))), (j2, ())), ())
              else some (((3, (ByteArray.mk #[], (j5, (j1, ())))), (j2, ())), ())
            else bif j3 == j1 then
              bif j5 == -9223372036854775808 then
                some (((0, (ByteArray.mk #[], (0, (0, ())))), (-1, ())), ())
              else some (((3, (ByteArray.mk #[], (IntKind.wrap IntKind.i64 (0 - j5), (j1, ())))), (j2, ())), ())
            else some (((3, (ByteArray.mk #[], (j5, (j1, ())))), (j2, ())), ())
          else none
        else none
      else none
    else none
  else bif j2 == j3 then
    some (((0, (ByteArray.mk #[], (0, (0, ())))), (-1, ())), ())
  else if 0 ≤ j3 then
    if j3 < (↑(ByteArray.size s0) : Int) then
      bif bt s0 j3 == 48 then
        bif decide (j2 > IntKind.wrap IntKind.i64 (j3 + 1)) then
          some (((0, (ByteArray.mk #[], (0, (0, ())))), (-1, ())), ())
        else bif decide (j3 > j1) then
          some (((0, (ByteArray.mk #[], (0, (0, ())))), (-1, ())), ())
        else bif j3 == j1 then
          bif j5 == -9223372036854775808 then
            some (((0, (ByteArray.mk #[], (0, (0, ())))), (-1, ())), ())
          else some (((3, (ByteArray.mk #[], (IntKind.wrap IntKind.i64 (0 - j5), (j1, ())))), (j2, ())), ())
        else some (((3, (ByteArray.mk #[], (j5, (j1, ())))), (j2, ())), ())
      else bif j3 == j1 then
        bif j5 == -9223372036854775808 then
          some (((0, (ByteArray.mk #[], (0, (0, ())))), (-1, ())), ())
        else some (((3, (ByteArray.mk #[], (IntKind.wrap IntKind.i64 (0 - j5), (j1, ())))), (j2, ())), ())
      else some (((3, (ByteArray.mk #[], (j5, (j1, ())))), (j2, ())), ())
    else none
  else none := by kernel_rfl
theorem ref07_number_e (n : Nat) (s0 : ByteArray) (j1 : Int) : ref07_number_v n s0 j1 =
  if 0 ≤ j1 then
    if j1 < (↑(ByteArray.size s0) : Int) then
      bif bt s0 j1 == 45 then
        ref07_number_l6 n s0 j1 n (IntKind.wrap IntKind.i64 (j1 + 1)) (IntKind.wrap IntKind.i64 (j1 + 1)) 0
      else ref07_number_l6 n s0 j1 n j1 j1 0
    else none
  else none := by kernel_rfl
theorem ref07_number_c (n : Nat) (s0 : ByteArray) (j1 : Int) (y : ((Int × ByteArray × Int × Int × Unit) × Int × Unit) × Unit) (h : ref07_number_v n s0 j1 = some y) : Contract Try.prog 32 [AV.dv (DV.val (Value.string s0)), AV.dv (DV.val (Value.int IntKind.i64 j1))] [] (OSh.enc (OSh.plain (.tup [.agg [.i IntKind.i64, .s, .i IntKind.i64, .i IntKind.i64], .i IntKind.i64]) []) y) :=
  auto_okM tm_std (with_ok mixed (by kernel_rfl) (ref07_number_σok n) n 0 []) (with_pick mixed (by kernel_rfl) (ref07_number_σok n) n 0 []) mixed Try.func32 (by decide) (o := (OSh.plain (.tup [.agg [.i IntKind.i64, .s, .i IntKind.i64, .i IntKind.i64], .i IntKind.i64]) [])) h
/-! ref07_Plain: function 52 -/
def ref07_Plain_lv : Live := []
noncomputable def ref07_Plain_σ (n : Nat) : Spec := Spec.none
theorem ref07_Plain_σok (n : Nat) : SpecOk Try.prog (ref07_Plain_σ n) := (SpecOk.none _)
noncomputable def ref07_Plain_Φ (n : Nat) : Orc := with_ Try.prog (ref07_Plain_σ n) [] n 0 []
noncomputable def ref07_Plain_v (n : Nat) (j0 : Int) : Option (Bool × Unit) :=
  DM.denFn tm (ref07_Plain_Φ n) ref07_Plain_lv n Try.f52 false [AV.dv (DV.val (Value.int IntKind.u8 j0))] [] (OSh.chk (OSh.plain (.b) []))
theorem ref07_Plain_e (n : Nat) (j0 : Int) : ref07_Plain_v n j0 =
  bif decide (j0 ≥ 32) then
    bif decide (j0 ≤ 126) then
      bif j0 != 34 then
        some (j0 != 92, ())
      else some (false, ())
    else some (false, ())
  else some (false, ()) := by kernel_rfl
theorem ref07_Plain_c (n : Nat) (j0 : Int) (y : Bool × Unit) (h : ref07_Plain_v n j0 = some y) : Contract Try.prog 52 [AV.dv (DV.val (Value.int IntKind.u8 j0))] [] (OSh.enc (OSh.plain (.b) []) y) :=
  auto_okM tm_std (with_ok mixed (by kernel_rfl) (ref07_Plain_σok n) n 0 []) (with_pick mixed (by kernel_rfl) (ref07_Plain_σok n) n 0 []) mixed Try.func52 (by decide) (o := (OSh.plain (.b) [])) h
/-! ref07_quote: function 33 -/
def ref07_quote_lv : Live := [(2, [0, 1, 4, 6], [4, 1000, 1001, 1002, 1003])]
noncomputable def ref07_quote_σ (n : Nat) : Spec := (inst 52 [.i IntKind.u8] [] (OSh.plain (.b) []) (fun x e => ref07_Plain_v n x.1) Spec.none)
theorem ref07_quote_σok (n : Nat) : SpecOk Try.prog (ref07_quote_σ n) := (inst_ok (fun x e y h => ref07_Plain_c n x.1 y h) (SpecOk.none _))
noncomputable def ref07_quote_Φ (n : Nat) : Orc := with_ Try.prog (ref07_quote_σ n) [] n 0 []
noncomputable def ref07_quote_v (n : Nat) (s0 : ByteArray) (j1 : Int) : Option (((Int × ByteArray × Int × Int × Unit) × Int × Unit) × Unit) :=
  DM.denFn tm (ref07_quote_Φ n) ref07_quote_lv n Try.f33 false [AV.dv (DV.val (Value.string s0)), AV.dv (DV.val (Value.int IntKind.i64 j1))] [] (OSh.chk (OSh.plain (.tup [.agg [.i IntKind.i64, .s, .i IntKind.i64, .i IntKind.i64], .i IntKind.i64]) []))
noncomputable def ref07_quote_l2 (n : Nat) (s0 : ByteArray) (j1 : Int) (i0 : Nat) (j3 : Int) : Option (((Int × ByteArray × Int × Int × Unit) × Int × Unit) × Unit) :=
  DM.loopFn tm (ref07_quote_Φ n) ref07_quote_lv n Try.f33 false [] (OSh.chk (OSh.plain (.tup [.agg [.i IntKind.i64, .s, .i IntKind.i64, .i IntKind.i64], .i IntKind.i64]) [])) 2 [] i0 (St.mk [AV.dv (DV.val (Value.string s0)), AV.dv (DV.val (Value.int IntKind.i64 j1)), AV.junk, AV.junk, AV.pl 4 0, AV.junk, AV.dv (DV.val (Value.int IntKind.i64 j3)), AV.junk, AV.junk, AV.junk, AV.junk, AV.junk, AV.junk, AV.junk, AV.junk, AV.junk, AV.junk, AV.junk, AV.junk, AV.junk, AV.junk, AV.junk, AV.junk, AV.junk, AV.junk, AV.junk, AV.junk, AV.junk, AV.junk, AV.junk, AV.junk, AV.junk, AV.junk, AV.junk, AV.junk, AV.junk, AV.junk, AV.junk, AV.junk, AV.junk, AV.junk] [(4, [AV.dv (DV.val (Value.int IntKind.i64 0)), AV.dv (DV.val (Value.string (ByteArray.mk #[]))), AV.dv (DV.val (Value.int IntKind.i64 0)), AV.dv (DV.val (Value.int IntKind.i64 0))])])
theorem ref07_quote_s2 (n : Nat) (s0 : ByteArray) (j1 : Int) (i0 : Nat) (j3 : Int) : ref07_quote_l2 n s0 j1 (i0 + 1) j3 =
  bif decide (j3 < (↑(ByteArray.size s0) : Int)) then
    if 0 ≤ j3 then
      if j3 < (↑(ByteArray.size s0) : Int) then
        obind (ref07_Plain_v n (bt s0 j3)) fun y4 =>
        bif y4.fst then
          ref07_quote_l2 n s0 j1 i0 (IntKind.wrap IntKind.i64 (j3 + 1))
        else bif decide (j3 ≥ (↑(ByteArray.size s0) : Int)) then
          some (((0, (ByteArray.mk #[], (0, (0, ())))), (-1, ())), ())
        else if 0 ≤ j3 then
          if j3 < (↑(ByteArray.size s0) : Int) then
            bif bt s0 j3 != 34 then
              some (((0, (ByteArray.mk #[], (0, (0, ())))), (-1, ())), ())
            else if 0 ≤ IntKind.wrap IntKind.i64 (j1 + 1) then
              if IntKind.wrap IntKind.i64 (j1 + 1) ≤ j3 then
                if j3 ≤ (↑(ByteArray.size s0) : Int) then
                  some (((4, (ByteArray.extract s0 (Int.toNat (IntKind.wrap IntKind.i64 (j1 + 1))) (Int.toNat j3), (0, (j1, ())))), (IntKind.wrap IntKind.i64 (j3 + 1), ())), ())
                else none
              else none
            else none
          else none
        else none
      else none
    else none
  else bif decide (j3 ≥ (↑(ByteArray.size s0) : Int)) then
    some (((0, (ByteArray.mk #[], (0, (0, ())))), (-1, ())), ())
  else if 0 ≤ j3 then
    if j3 < (↑(ByteArray.size s0) : Int) then
      bif bt s0 j3 != 34 then
        some (((0, (ByteArray.mk #[], (0, (0, ())))), (-1, ())), ())
      else if 0 ≤ IntKind.wrap IntKind.i64 (j1 + 1) then
        if IntKind.wrap IntKind.i64 (j1 + 1) ≤ j3 then
          if j3 ≤ (↑(ByteArray.size s0) : Int) then
            some (((4, (ByteArray.extract s0 (Int.toNat (IntKind.wrap IntKind.i64 (j1 + 1))) (Int.toNat j3), (0, (j1, ())))), (IntKind.wrap IntKind.i64 (j3 + 1), ())), ())
          else none
        else none
      else none
    else none
  else none := by kernel_rfl
theorem ref07_quote_e (n : Nat) (s0 : ByteArray) (j1 : Int) : ref07_quote_v n s0 j1 =
  ref07_quote_l2 n s0 j1 n (IntKind.wrap IntKind.i64 (j1 + 1)) := by kernel_rfl
theorem ref07_quote_c (n : Nat) (s0 : ByteArray) (j1 : Int) (y : ((Int × ByteArray × Int × Int × Unit) × Int × Unit) × Unit) (h : ref07_quote_v n s0 j1 = some y) : Contract Try.prog 33 [AV.dv (DV.val (Value.string s0)), AV.dv (DV.val (Value.int IntKind.i64 j1))] [] (OSh.enc (OSh.plain (.tup [.agg [.i IntKind.i64, .s, .i IntKind.i64, .i IntKind.i64], .i IntKind.i64]) []) y) :=
  auto_okM tm_std (with_ok mixed (by kernel_rfl) (ref07_quote_σok n) n 0 []) (with_pick mixed (by kernel_rfl) (ref07_quote_σok n) n 0 []) mixed Try.func33 (by decide) (o := (OSh.plain (.tup [.agg [.i IntKind.i64, .s, .i IntKind.i64, .i IntKind.i64], .i IntKind.i64]) [])) h
/-! ref07_Inner: function 30 -/
def ref07_Inner_lv : Live := []
noncomputable def ref07_Inner_σ (n : Nat) : Spec := (inst 28 [.i IntKind.u8] [] (OSh.plain (.b) []) (fun x e => ref07_small_v n x.1) (inst 29 [.i IntKind.u8] [] (OSh.plain (.b) []) (fun x e => ref07_great_v n x.1) (inst 31 [.i IntKind.u8] [] (OSh.plain (.b) []) (fun x e => ref07_digit_v n x.1) Spec.none)))
theorem ref07_Inner_σok (n : Nat) : SpecOk Try.prog (ref07_Inner_σ n) := (inst_ok (fun x e y h => ref07_small_c n x.1 y h) (inst_ok (fun x e y h => ref07_great_c n x.1 y h) (inst_ok (fun x e y h => ref07_digit_c n x.1 y h) (SpecOk.none _))))
noncomputable def ref07_Inner_Φ (n : Nat) : Orc := with_ Try.prog (ref07_Inner_σ n) [] n 0 []
noncomputable def ref07_Inner_v (n : Nat) (j0 : Int) : Option (Bool × Unit) :=
  DM.denFn tm (ref07_Inner_Φ n) ref07_Inner_lv n Try.f30 false [AV.dv (DV.val (Value.int IntKind.u8 j0))] [] (OSh.chk (OSh.plain (.b) []))
theorem ref07_Inner_e (n : Nat) (j0 : Int) : ref07_Inner_v n j0 =
  obind (ref07_small_v n j0) fun y1 =>
  bif y1.fst then
    some (true, ())
  else obind (ref07_great_v n j0) fun y2 =>
  bif y2.fst then
    some (true, ())
  else obind (ref07_digit_v n j0) fun y3 =>
  bif y3.fst then
    some (true, ())
  else some (j0 == 95, ()) := by kernel_rfl
theorem ref07_Inner_c (n : Nat) (j0 : Int) (y : Bool × Unit) (h : ref07_Inner_v n j0 = some y) : Contract Try.prog 30 [AV.dv (DV.val (Value.int IntKind.u8 j0))] [] (OSh.enc (OSh.plain (.b) []) y) :=
  auto_okM tm_std (with_ok mixed (by kernel_rfl) (ref07_Inner_σok n) n 0 []) (with_pick mixed (by kernel_rfl) (ref07_Inner_σok n) n 0 []) mixed Try.func30 (by decide) (o := (OSh.plain (.b) [])) h
/-! ref07_One: function 21 -/
def ref07_One_lv : Live := [(4, [0, 1, 4, 6, 7], [4, 1000, 1001, 1002, 1003])]
noncomputable def ref07_One_σ (n : Nat) : Spec := (inst 28 [.i IntKind.u8] [] (OSh.plain (.b) []) (fun x e => ref07_small_v n x.1) (inst 29 [.i IntKind.u8] [] (OSh.plain (.b) []) (fun x e => ref07_great_v n x.1) (inst 31 [.i IntKind.u8] [] (OSh.plain (.b) []) (fun x e => ref07_digit_v n x.1) (inst 32 [.s, .i IntKind.i64] [] (OSh.plain (.tup [.agg [.i IntKind.i64, .s, .i IntKind.i64, .i IntKind.i64], .i IntKind.i64]) []) (fun x e => ref07_number_v n x.1 x.2.1) (inst 33 [.s, .i IntKind.i64] [] (OSh.plain (.tup [.agg [.i IntKind.i64, .s, .i IntKind.i64, .i IntKind.i64], .i IntKind.i64]) []) (fun x e => ref07_quote_v n x.1 x.2.1) (inst 30 [.i IntKind.u8] [] (OSh.plain (.b) []) (fun x e => ref07_Inner_v n x.1) Spec.none))))))
theorem ref07_One_σok (n : Nat) : SpecOk Try.prog (ref07_One_σ n) := (inst_ok (fun x e y h => ref07_small_c n x.1 y h) (inst_ok (fun x e y h => ref07_great_c n x.1 y h) (inst_ok (fun x e y h => ref07_digit_c n x.1 y h) (inst_ok (fun x e y h => ref07_number_c n x.1 x.2.1 y h) (inst_ok (fun x e y h => ref07_quote_c n x.1 x.2.1 y h) (inst_ok (fun x e y h => ref07_Inner_c n x.1 y h) (SpecOk.none _)))))))
noncomputable def ref07_One_Φ (n : Nat) : Orc := with_ Try.prog (ref07_One_σ n) [] n 0 []
noncomputable def ref07_One_v (n : Nat) (s0 : ByteArray) (j1 : Int) : Option (((Int × ByteArray × Int × Int × Unit) × Int × Unit) × Unit) :=
  DM.denFn tm (ref07_One_Φ n) ref07_One_lv n Try.f21 false [AV.dv (DV.val (Value.string s0)), AV.dv (DV.val (Value.int IntKind.i64 j1))] [] (OSh.chk (OSh.plain (.tup [.agg [.i IntKind.i64, .s, .i IntKind.i64, .i IntKind.i64], .i IntKind.i64]) []))
noncomputable def ref07_One_l4 (n : Nat) (s0 : ByteArray) (j1 : Int) (i0 : Nat) (j11 : Int) : Option (((Int × ByteArray × Int × Int × Unit) × Int × Unit) × Unit) :=
  DM.loopFn tm (ref07_One_Φ n) ref07_One_lv n Try.f21 false [] (OSh.chk (OSh.plain (.tup [.agg [.i IntKind.i64, .s, .i IntKind.i64, .i IntKind.i64], .i IntKind.i64]) [])) 4 [] i0 (St.mk [AV.dv (DV.val (Value.string s0)), AV.dv (DV.val (Value.int IntKind.i64 j1)), AV.junk, AV.junk, AV.pl 4 0, AV.junk, AV.dv (DV.val (Value.int IntKind.u8 (bt s0 j1))), AV.dv (DV.val (Value.int IntKind.i64 j11)), AV.junk, AV.junk, AV.junk, AV.junk, AV.junk, AV.junk, AV.junk, AV.junk, AV.junk, AV.junk, AV.junk, AV.junk, AV.junk, AV.junk, AV.junk, AV.junk, AV.junk, AV.junk, AV.junk, AV.junk, AV.junk, AV.junk, AV.junk, AV.junk, AV.junk, AV.junk, AV.junk, AV.junk, AV.junk, AV.junk, AV.junk, AV.junk, AV.junk, AV.junk, AV.junk, AV.junk, AV.junk, AV.junk, AV.junk, AV.junk, AV.junk, AV.junk, AV.junk, AV.junk, AV.junk, AV.junk, AV.junk, AV.junk, AV.junk, AV.junk, AV.junk, AV.junk, AV.junk, AV.junk, AV.junk, AV.junk, AV.junk, AV.junk, AV.junk, AV.junk, AV.junk, AV.junk, AV.junk, AV.junk, AV.junk, AV.junk, AV.junk, AV.junk, AV.junk, AV.junk, AV.junk, AV.junk, AV.junk, AV.junk, AV.junk, AV.junk, AV.junk, AV.junk, AV.junk, AV.junk, AV.junk, AV.junk, AV.junk, AV.junk, AV.junk, AV.junk, AV.junk, AV.junk, AV.junk, AV.junk, AV.junk, AV.junk, AV.junk, AV.junk, AV.junk, AV.junk, AV.junk, AV.junk, AV.junk, AV.junk] [(4, [AV.dv (DV.val (Value.int IntKind.i64 0)), AV.dv (DV.val (Value.string (ByteArray.mk #[]))), AV.dv (DV.val (Value.int IntKind.i64 0)), AV.dv (DV.val (Value.int IntKind.i64 0))])])
theorem ref07_One_s4 (n : Nat) (s0 : ByteArray) (j1 : Int) (i0 : Nat) (j11 : Int) : ref07_One_l4 n s0 j1 (i0 + 1) j11 =
  bif decide (j11 < (↑(ByteArray.size s0) : Int)) then
    if 0 ≤ j11 then
      if j11 < (↑(ByteArray.size s0) : Int) then
        obind (ref07_Inner_v n (bt s0 j11)) fun y12 =>
        bif y12.fst then
          ref07_One_l4 n s0 j1 i0 (IntKind.wrap IntKind.i64 (j11 + 1))
        else if 0 ≤ j1 then
          if j1 ≤ j11 then
            if j11 ≤ (↑(ByteArray.size s0) : Int) then
              obind (ref07_great_v n (bt s0 j1)) fun y13 =>
              bif y13.fst then
                some (((2, (ByteArray.extract s0 (Int.toNat j1) (Int.toNat j11), (0, (j1, ())))), (j11, ())), ())
              else some (((1, (ByteArray.extract s0 (Int.toNat j1) (Int.toNat j11), (0, (j1, ())))), (j11, ())), ())
            else none
          else none
        else none
      else none
    else none
  else if 0 ≤ j1 then
    if j1 ≤ j11 then
      if j11 ≤ (↑(ByteArray.size s0) : Int) then
        obind (ref07_great_v n (bt s0 j1)) fun y14 =>
        bif y14.fst then
          some (((2, (ByteArray.extract s0 (Int.toNat j1) (Int.toNat j11), (0, (j1, ())))), (j11, ())), ())
        else some (((1, (ByteArray.extract s0 (Int.toNat j1) (Int.toNat j11), (0, (j1, ())))), (j11, ())), ())
      else none
    else none
  else none := by kernel_rfl
theorem ref07_One_e (n : Nat) (s0 : ByteArray) (j1 : Int) : ref07_One_v n s0 j1 =
  if 0 ≤ j1 then
    if j1 < (↑(ByteArray.size s0) : Int) then
      obind (ref07_small_v n (bt s0 j1)) fun y2 =>
      bif y2.fst then
        ref07_One_l4 n s0 j1 n j1
      else obind (ref07_great_v n (bt s0 j1)) fun y3 =>
      bif y3.fst then
        ref07_One_l4 n s0 j1 n j1
      else obind (ref07_digit_v n (bt s0 j1)) fun y4 =>
      bif y4.fst then
        obind (ref07_number_v n s0 j1) fun y5 =>
        some (((y5.fst.fst.fst, (y5.fst.fst.snd.fst, (y5.fst.fst.snd.snd.fst, (y5.fst.fst.snd.snd.snd.fst, ())))), (y5.fst.snd.fst, ())), ())
      else bif bt s0 j1 == 45 then
        obind (ref07_number_v n s0 j1) fun y6 =>
        some (((y6.fst.fst.fst, (y6.fst.fst.snd.fst, (y6.fst.fst.snd.snd.fst, (y6.fst.fst.snd.snd.snd.fst, ())))), (y6.fst.snd.fst, ())), ())
      else bif bt s0 j1 == 34 then
        obind (ref07_quote_v n s0 j1) fun y7 =>
        some (((y7.fst.fst.fst, (y7.fst.fst.snd.fst, (y7.fst.fst.snd.snd.fst, (y7.fst.fst.snd.snd.snd.fst, ())))), (y7.fst.snd.fst, ())), ())
      else bif bt s0 j1 == 58 then
        bif decide (IntKind.wrap IntKind.i64 (j1 + 1) < (↑(ByteArray.size s0) : Int)) then
          if 0 ≤ IntKind.wrap IntKind.i64 (j1 + 1) then
            if IntKind.wrap IntKind.i64 (j1 + 1) < (↑(ByteArray.size s0) : Int) then
              bif bt s0 (IntKind.wrap IntKind.i64 (j1 + 1)) == 45 then
                some (((5, (ByteArray.mk #[58, 45], (0, (j1, ())))), (IntKind.wrap IntKind.i64 (j1 + 2), ())), ())
              else bif bt s0 j1 == 40 then
                if 0 ≤ j1 then
                  if j1 ≤ IntKind.wrap IntKind.i64 (j1 + 1) then
                    if IntKind.wrap IntKind.i64 (j1 + 1) ≤ (↑(ByteArray.size s0) : Int) then
                      some (((5, (ByteArray.extract s0 (Int.toNat j1) (Int.toNat (IntKind.wrap IntKind.i64 (j1 + 1))), (0, (j1, ())))), (IntKind.wrap IntKind.i64 (j1 + 1), ())), ())
                    else none
                  else none
                else none
              else bif bt s0 j1 == 41 then
                if 0 ≤ j1 then
                  if j1 ≤ IntKind.wrap IntKind.i64 (j1 + 1) then
                    if IntKind.wrap IntKind.i64 (j1 + 1) ≤ (↑(ByteArray.size s0) : Int) then
                      some (((5, (ByteArray.extract s0 (Int.toNat j1) (Int.toNat (IntKind.wrap IntKind.i64 (j1 + 1))), (0, (j1, ())))), (IntKind.wrap IntKind.i64 (j1 + 1), ())), ())
                    else none
                  else none
                else none
              else bif bt s0 j1 == 44 then
                if 0 ≤ j1 then
                  if j1 ≤ IntKind.wrap IntKind.i64 (j1 + 1) then
                    if IntKind.wrap IntKind.i64 (j1 + 1) ≤ (↑(ByteArray.size s0) : Int) then
                      some (((5, (ByteArray.extract s0 (Int.toNat j1) (Int.toNat (IntKind.wrap IntKind.i64 (j1 + 1))), (0, (j1, ())))), (IntKind.wrap IntKind.i64 (j1 + 1), ())), ())
                    else none
                  else none
                else none
              else bif bt s0 j1 == 46 then
                if 0 ≤ j1 then
                  if j1 ≤ IntKind.wrap IntKind.i64 (j1 + 1) then
                    if IntKind.wrap IntKind.i64 (j1 + 1) ≤ (↑(ByteArray.size s0) : Int) then
                      some (((5, (ByteArray.extract s0 (Int.toNat j1) (Int.toNat (IntKind.wrap IntKind.i64 (j1 + 1))), (0, (j1, ())))), (IntKind.wrap IntKind.i64 (j1 + 1), ())), ())
                    else none
                  else none
                else none
              else bif bt s0 j1 == 58 then
                if 0 ≤ j1 then
                  if j1 ≤ IntKind.wrap IntKind.i64 (j1 + 1) then
                    if IntKind.wrap IntKind.i64 (j1 + 1) ≤ (↑(ByteArray.size s0) : Int) then
                      some (((5, (ByteArray.extract s0 (Int.toNat j1) (Int.toNat (IntKind.wrap IntKind.i64 (j1 + 1))), (0, (j1, ())))), (IntKind.wrap IntKind.i64 (j1 + 1), ())), ())
                    else none
                  else none
                else none
              else some (((0, (ByteArray.mk #[], (0, (0, ())))), (-1, ())), ())
            else none
          else none
        else bif bt s0 j1 == 40 then
          if 0 ≤ j1 then
            if j1 ≤ IntKind.wrap IntKind.i64 (j1 + 1) then
              if IntKind.wrap IntKind.i64 (j1 + 1) ≤ (↑(ByteArray.size s0) : Int) then
                some (((5, (ByteArray.extract s0 (Int.toNat j1) (Int.toNat (IntKind.wrap IntKind.i64 (j1 + 1))), (0, (j1, ())))), (IntKind.wrap IntKind.i64 (j1 + 1), ())), ())
              else none
            else none
          else none
        else bif bt s0 j1 == 41 then
          if 0 ≤ j1 then
            if j1 ≤ IntKind.wrap IntKind.i64 (j1 + 1) then
              if IntKind.wrap IntKind.i64 (j1 + 1) ≤ (↑(ByteArray.size s0) : Int) then
                some (((5, (ByteArray.extract s0 (Int.toNat j1) (Int.toNat (IntKind.wrap IntKind.i64 (j1 + 1))), (0, (j1, ())))), (IntKind.wrap IntKind.i64 (j1 + 1), ())), ())
              else none
            else none
          else none
        else bif bt s0 j1 == 44 then
          if 0 ≤ j1 then
            if j1 ≤ IntKind.wrap IntKind.i64 (j1 + 1) then
              if IntKind.wrap IntKind.i64 (j1 + 1) ≤ (↑(ByteArray.size s0) : Int) then
                some (((5, (ByteArray.extract s0 (Int.toNat j1) (Int.toNat (IntKind.wrap IntKind.i64 (j1 + 1))), (0, (j1, ())))), (IntKind.wrap IntKind.i64 (j1 + 1), ())), ())
              else none
            else none
          else none
        else bif bt s0 j1 == 46 then
          if 0 ≤ j1 then
            if j1 ≤ IntKind.wrap IntKind.i64 (j1 + 1) then
              if IntKind.wrap IntKind.i64 (j1 + 1) ≤ (↑(ByteArray.size s0) : Int) then
                some (((5, (ByteArray.extract s0 (Int.toNat j1) (Int.toNat (IntKind.wrap IntKind.i64 (j1 + 1))), (0, (j1, ())))), (IntKind.wrap IntKind.i64 (j1 + 1), ())), ())
              else none
            else none
          else none
        else bif bt s0 j1 == 58 then
          if 0 ≤ j1 then
            if j1 ≤ IntKind.wrap IntKind.i64 (j1 + 1) then
              if IntKind.wrap IntKind.i64 (j1 + 1) ≤ (↑(ByteArray.size s0) : Int) then
                some (((5, (ByteArray.extract s0 (Int.toNat j1) (Int.toNat (IntKind.wrap IntKind.i64 (j1 + 1))), (0, (j1, ())))), (IntKind.wrap IntKind.i64 (j1 + 1), ())), ())
              else none
            else none
          else none
        else some (((0, (ByteArray.mk #[], (0, (0, ())))), (-1, ())), ())
      else bif bt s0 j1 == 40 then
        if 0 ≤ j1 then
          if j1 ≤ IntKind.wrap IntKind.i64 (j1 + 1) then
            if IntKind.wrap IntKind.i64 (j1 + 1) ≤ (↑(ByteArray.size s0) : Int) then
              some (((5, (ByteArray.extract s0 (Int.toNat j1) (Int.toNat (IntKind.wrap IntKind.i64 (j1 + 1))), (0, (j1, ())))), (IntKind.wrap IntKind.i64 (j1 + 1), ())), ())
            else none
          else none
        else none
      else bif bt s0 j1 == 41 then
        if 0 ≤ j1 then
          if j1 ≤ IntKind.wrap IntKind.i64 (j1 + 1) then
            if IntKind.wrap IntKind.i64 (j1 + 1) ≤ (↑(ByteArray.size s0) : Int) then
              some (((5, (ByteArray.extract s0 (Int.toNat j1) (Int.toNat (IntKind.wrap IntKind.i64 (j1 + 1))), (0, (j1, ())))), (IntKind.wrap IntKind.i64 (j1 + 1), ())), ())
            else none
          else none
        else none
      else bif bt s0 j1 == 44 then
        if 0 ≤ j1 then
          if j1 ≤ IntKind.wrap IntKind.i64 (j1 + 1) then
            if IntKind.wrap IntKind.i64 (j1 + 1) ≤ (↑(ByteArray.size s0) : Int) then
              some (((5, (ByteArray.extract s0 (Int.toNat j1) (Int.toNat (IntKind.wrap IntKind.i64 (j1 + 1))), (0, (j1, ())))), (IntKind.wrap IntKind.i64 (j1 + 1), ())), ())
            else none
          else none
        else none
      else bif bt s0 j1 == 46 then
        if 0 ≤ j1 then
          if j1 ≤ IntKind.wrap IntKind.i64 (j1 + 1) then
            if IntKind.wrap IntKind.i64 (j1 + 1) ≤ (↑(ByteArray.size s0) : Int) then
              some (((5, (ByteArray.extract s0 (Int.toNat j1) (Int.toNat (IntKind.wrap IntKind.i64 (j1 + 1))), (0, (j1, ())))), (IntKind.wrap IntKind.i64 (j1 + 1), ())), ())
            else none
          else none
        else none
      else bif bt s0 j1 == 58 then
        if 0 ≤ j1 then
          if j1 ≤ IntKind.wrap IntKind.i64 (j1 + 1) then
            if IntKind.wrap IntKind.i64 (j1 + 1) ≤ (↑(ByteArray.size s0) : Int) then
              some (((5, (ByteArray.extract s0 (Int.toNat j1) (Int.toNat (IntKind.wrap IntKind.i64 (j1 + 1))), (0, (j1, ())))), (IntKind.wrap IntKind.i64 (j1 + 1), ())), ())
            else none
          else none
        else none
      else some (((0, (ByteArray.mk #[], (0, (0, ())))), (-1, ())), ())
    else none
  else none := by kernel_rfl
theorem ref07_One_c (n : Nat) (s0 : ByteArray) (j1 : Int) (y : ((Int × ByteArray × Int × Int × Unit) × Int × Unit) × Unit) (h : ref07_One_v n s0 j1 = some y) : Contract Try.prog 21 [AV.dv (DV.val (Value.string s0)), AV.dv (DV.val (Value.int IntKind.i64 j1))] [] (OSh.enc (OSh.plain (.tup [.agg [.i IntKind.i64, .s, .i IntKind.i64, .i IntKind.i64], .i IntKind.i64]) []) y) :=
  auto_okM tm_std (with_ok mixed (by kernel_rfl) (ref07_One_σok n) n 0 []) (with_pick mixed (by kernel_rfl) (ref07_One_σok n) n 0 []) mixed Try.func21 (by decide) (o := (OSh.plain (.tup [.agg [.i IntKind.i64, .s, .i IntKind.i64, .i IntKind.i64], .i IntKind.i64]) [])) h
/-! ref07_Tokens: function 15 -/
def ref07_Tokens_lv : Live := [(5, [0, 5, 6], [1000, 1001, 1002, 1003])]
noncomputable def ref07_Tokens_σ (n : Nat) : Spec := (inst 20 [.s, .i IntKind.i64] [] (OSh.plain (.i IntKind.i64) []) (fun x e => ref07_Skip_v n x.1 x.2.1) (inst 21 [.s, .i IntKind.i64] [] (OSh.plain (.tup [.agg [.i IntKind.i64, .s, .i IntKind.i64, .i IntKind.i64], .i IntKind.i64]) []) (fun x e => ref07_One_v n x.1 x.2.1) Spec.none))
theorem ref07_Tokens_σok (n : Nat) : SpecOk Try.prog (ref07_Tokens_σ n) := (inst_ok (fun x e y h => ref07_Skip_c n x.1 x.2.1 y h) (inst_ok (fun x e y h => ref07_One_c n x.1 x.2.1 y h) (SpecOk.none _)))
noncomputable def ref07_Tokens_Φ (n : Nat) : Orc := with_ Try.prog (ref07_Tokens_σ n) [] n 0 []
noncomputable def ref07_Tokens_v (n : Nat) (s0 : ByteArray) : Option (((Bool × Rows) × Int × Int × Unit) × Unit) :=
  DM.denFn tm (ref07_Tokens_Φ n) ref07_Tokens_lv n Try.f15 true [AV.dv (DV.val (Value.string s0))] [] (OSh.chk (OSh.plain (.tup [.slt [Kd.i IntKind.i64, Kd.s, Kd.i IntKind.i64, Kd.i IntKind.i64] 0, .i IntKind.i64, .i IntKind.i64]) []))
noncomputable def ref07_Tokens_l5 (n : Nat) (s0 : ByteArray) (i0 : Nat) (j2 : Int) (b5 : Bool) (r6 : List (List DV)) : Option (((Bool × Rows) × Int × Int × Unit) × Unit) :=
  DM.loopFn tm (ref07_Tokens_Φ n) ref07_Tokens_lv n Try.f15 true [] (OSh.chk (OSh.plain (.tup [.slt [Kd.i IntKind.i64, Kd.s, Kd.i IntKind.i64, Kd.i IntKind.i64] 0, .i IntKind.i64, .i IntKind.i64]) [])) 5 [] i0 (St.mk [AV.dv (DV.val (Value.string s0)), AV.junk, AV.junk, AV.junk, AV.junk, AV.sl b5 [Kd.i IntKind.i64, Kd.s, Kd.i IntKind.i64, Kd.i IntKind.i64] r6 (Right.tok 5), AV.dv (DV.val (Value.int IntKind.i64 j2)), AV.junk, AV.junk, AV.junk, AV.junk, AV.junk, AV.junk, AV.junk, AV.junk, AV.junk, AV.junk, AV.junk, AV.junk, AV.junk, AV.junk, AV.junk, AV.junk, AV.junk, AV.junk, AV.junk, AV.junk, AV.junk, AV.junk, AV.junk, AV.junk, AV.junk, AV.junk, AV.junk, AV.junk, AV.junk, AV.junk, AV.junk, AV.junk, AV.junk] [])
theorem ref07_Tokens_s5 (n : Nat) (s0 : ByteArray) (i0 : Nat) (j2 : Int) (b5 : Bool) (r6 : List (List DV)) : ref07_Tokens_l5 n s0 (i0 + 1) j2 b5 r6 =
  bif decide (j2 < (↑(ByteArray.size s0) : Int)) then
    obind (ref07_One_v n s0 j2) fun y7 =>
    bif decide (y7.fst.snd.fst < 0) then
      some (((true, []), (j2, (70, ()))), ())
    else bif decide ((↑(ByteArray.size y7.fst.fst.snd.fst) : Int) > 32) then
      some (((true, []), (j2, (71, ()))), ())
    else if List.length r6 + List.length [[DV.val (Value.int IntKind.i64 y7.fst.fst.fst), DV.val (Value.string y7.fst.fst.snd.fst), DV.val (Value.int IntKind.i64 y7.fst.fst.snd.snd.fst), DV.val (Value.int IntKind.i64 y7.fst.fst.snd.snd.snd.fst)]] < 2147483648 then
      obind (ref07_Skip_v n s0 y7.fst.snd.fst) fun y8 =>
      ref07_Tokens_l5 n s0 i0 y8.fst (b5 && List.isEmpty [[DV.val (Value.int IntKind.i64 y7.fst.fst.fst), DV.val (Value.string y7.fst.fst.snd.fst), DV.val (Value.int IntKind.i64 y7.fst.fst.snd.snd.fst), DV.val (Value.int IntKind.i64 y7.fst.fst.snd.snd.snd.fst)]]) (appX r6 [[DV.val (Value.int IntKind.i64 y7.fst.fst.fst), DV.val (Value.string y7.fst.fst.snd.fst), DV.val (Value.int IntKind.i64 y7.fst.fst.snd.snd.fst), DV.val (Value.int IntKind.i64 y7.fst.fst.snd.snd.snd.fst)]])
    else none
  else some (((b5, r6), (0, (0, ()))), ()) := by kernel_rfl
theorem ref07_Tokens_e (n : Nat) (s0 : ByteArray) : ref07_Tokens_v n s0 =
  bif decide ((↑(ByteArray.size s0) : Int) > 4096) then
    some (((true, []), (0, (3, ()))), ())
  else obind (ref07_Skip_v n s0 0) fun y1 =>
  ref07_Tokens_l5 n s0 n y1.fst true [] := by kernel_rfl
theorem ref07_Tokens_c (n : Nat) (s0 : ByteArray) (y : ((Bool × Rows) × Int × Int × Unit) × Unit) (h : ref07_Tokens_v n s0 = some y) : Contract Try.prog 15 [AV.dv (DV.val (Value.string s0))] [] (OSh.enc (OSh.plain (.tup [.slt [Kd.i IntKind.i64, Kd.s, Kd.i IntKind.i64, Kd.i IntKind.i64] 0, .i IntKind.i64, .i IntKind.i64]) []) y) :=
  auto_okM tm_std (with_ok mixed (by kernel_rfl) (ref07_Tokens_σok n) n 0 []) (with_pick mixed (by kernel_rfl) (ref07_Tokens_σok n) n 0 []) mixed Try.func15 (by decide) (o := (OSh.plain (.tup [.slt [Kd.i IntKind.i64, Kd.s, Kd.i IntKind.i64, Kd.i IntKind.i64] 0, .i IntKind.i64, .i IntKind.i64]) [])) h
/-! ref07_Like: function 16 -/
def ref07_Like_lv : Live := [(4, [0, 1, 5], [1000, 1001, 1002, 1003])]
noncomputable def ref07_Like_σ (n : Nat) : Spec := Spec.none
theorem ref07_Like_σok (n : Nat) : SpecOk Try.prog (ref07_Like_σ n) := (SpecOk.none _)
noncomputable def ref07_Like_Φ (n : Nat) : Orc := with_ Try.prog (ref07_Like_σ n) [] n 0 []
noncomputable def ref07_Like_v (n : Nat) (b0 : Bool) (r1 : Rows) (b2 : Bool) (r3 : Rows) : Option (Bool × Unit) :=
  DM.denFn tm (ref07_Like_Φ n) ref07_Like_lv n Try.f16 false [AV.sl b0 [Kd.i IntKind.i64, Kd.s, Kd.i IntKind.i64, Kd.i IntKind.i64] r1 Right.no, AV.sl b2 [Kd.i IntKind.i64, Kd.s, Kd.i IntKind.i64, Kd.i IntKind.i64] r3 Right.no] [] (OSh.chk (OSh.plain (.b) []))
noncomputable def ref07_Like_l4 (n : Nat) (b0 : Bool) (r1 : Rows) (b2 : Bool) (r3 : Rows) (i0 : Nat) (j4 : Int) : Option (Bool × Unit) :=
  DM.loopFn tm (ref07_Like_Φ n) ref07_Like_lv n Try.f16 false [] (OSh.chk (OSh.plain (.b) [])) 4 [] i0 (St.mk [AV.sl b0 [Kd.i IntKind.i64, Kd.s, Kd.i IntKind.i64, Kd.i IntKind.i64] r1 Right.no, AV.sl b2 [Kd.i IntKind.i64, Kd.s, Kd.i IntKind.i64, Kd.i IntKind.i64] r3 Right.no, AV.junk, AV.junk, AV.junk, AV.dv (DV.val (Value.int IntKind.i64 j4)), AV.junk, AV.junk, AV.junk, AV.junk, AV.junk, AV.junk, AV.junk, AV.junk, AV.junk, AV.junk, AV.junk, AV.junk, AV.junk, AV.junk, AV.junk, AV.junk, AV.junk, AV.junk, AV.junk, AV.junk] [])
theorem ref07_Like_s4 (n : Nat) (b0 : Bool) (r1 : Rows) (b2 : Bool) (r3 : Rows) (i0 : Nat) (j4 : Int) : ref07_Like_l4 n b0 r1 b2 r3 (i0 + 1) j4 =
  bif decide (j4 < (↑(List.length r1) : Int)) then
    if 0 ≤ j4 then
      if j4 < (↑(List.length r1) : Int) then
        if 0 ≤ j4 then
          if j4 < (↑(List.length r3) : Int) then
            bif !(Row.I (List.getD r1 (Int.toNat j4) []) 0 == Row.I (List.getD r3 (Int.toNat j4) []) 0 && (Row.S (List.getD r1 (Int.toNat j4) []) 1 == Row.S (List.getD r3 (Int.toNat j4) []) 1 && (Row.I (List.getD r1 (Int.toNat j4) []) 2 == Row.I (List.getD r3 (Int.toNat j4) []) 2 && (Row.I (List.getD r1 (Int.toNat j4) []) 3 == Row.I (List.getD r3 (Int.toNat j4) []) 3 && true)))) then
              some (false, ())
            else ref07_Like_l4 n b0 r1 b2 r3 i0 (IntKind.wrap IntKind.i64 (j4 + 1))
          else none
        else none
      else none
    else none
  else some (true, ()) := by kernel_rfl
theorem ref07_Like_e (n : Nat) (b0 : Bool) (r1 : Rows) (b2 : Bool) (r3 : Rows) : ref07_Like_v n b0 r1 b2 r3 =
  bif (↑(List.length r1) : Int) != (↑(List.length r3) : Int) then
    some (false, ())
  else ref07_Like_l4 n b0 r1 b2 r3 n 0 := by kernel_rfl
theorem ref07_Like_c (n : Nat) (b0 : Bool) (r1 : Rows) (b2 : Bool) (r3 : Rows) (y : Bool × Unit) (h : ref07_Like_v n b0 r1 b2 r3 = some y) : Contract Try.prog 16 [AV.sl b0 [Kd.i IntKind.i64, Kd.s, Kd.i IntKind.i64, Kd.i IntKind.i64] r1 Right.no, AV.sl b2 [Kd.i IntKind.i64, Kd.s, Kd.i IntKind.i64, Kd.i IntKind.i64] r3 Right.no] [] (OSh.enc (OSh.plain (.b) []) y) :=
  auto_okM tm_std (with_ok mixed (by kernel_rfl) (ref07_Like_σok n) n 0 []) (with_pick mixed (by kernel_rfl) (ref07_Like_σok n) n 0 []) mixed Try.func16 (by decide) (o := (OSh.plain (.b) [])) h
/-! lex_Where: function 18 -/
def lex_Where_lv : Live := [(4, [0, 4, 5, 12, 13], [1000, 1001, 1002, 1003])]
noncomputable def lex_Where_σ (n : Nat) : Spec := Spec.none
theorem lex_Where_σok (n : Nat) : SpecOk Try.prog (lex_Where_σ n) := (SpecOk.none _)
noncomputable def lex_Where_Φ (n : Nat) : Orc := with_ Try.prog (lex_Where_σ n) [] n 0 []
noncomputable def lex_Where_v (n : Nat) (s0 : ByteArray) (j1 : Int) : Option ((Int × Int × Unit) × Unit) :=
  DM.denFn tm (lex_Where_Φ n) lex_Where_lv n Try.f18 false [AV.dv (DV.val (Value.string s0)), AV.dv (DV.val (Value.int IntKind.i64 j1))] [] (OSh.chk (OSh.plain (.tup [.i IntKind.i64, .i IntKind.i64]) []))
noncomputable def lex_Where_l4 (n : Nat) (s0 : ByteArray) (j1 : Int) (i0 : Nat) (j2 : Int) (j3 : Int) (j4 : Int) : Option ((Int × Int × Unit) × Unit) :=
  DM.loopFn tm (lex_Where_Φ n) lex_Where_lv n Try.f18 false [] (OSh.chk (OSh.plain (.tup [.i IntKind.i64, .i IntKind.i64]) [])) 4 [] i0 (St.mk [AV.dv (DV.val (Value.string s0)), AV.junk, AV.junk, AV.junk, AV.dv (DV.val (Value.int IntKind.i64 j2)), AV.dv (DV.val (Value.int IntKind.i64 j4)), AV.junk, AV.junk, AV.junk, AV.junk, AV.junk, AV.junk, AV.dv (DV.val (Value.int IntKind.i64 (if (↑(ByteArray.size s0) : Int) < if 0 > j1 then 0 else j1 then (↑(ByteArray.size s0) : Int) else if 0 > j1 then 0 else j1))), AV.dv (DV.val (Value.int IntKind.i64 j3)), AV.junk, AV.junk, AV.junk, AV.junk, AV.junk, AV.junk, AV.junk, AV.junk, AV.junk, AV.junk, AV.junk, AV.junk, AV.junk] [])
theorem lex_Where_s4 (n : Nat) (s0 : ByteArray) (j1 : Int) (i0 : Nat) (j2 : Int) (j3 : Int) (j4 : Int) : lex_Where_l4 n s0 j1 (i0 + 1) j2 j3 j4 =
  bif decide (j3 < if (↑(ByteArray.size s0) : Int) < if 0 > j1 then 0 else j1 then (↑(ByteArray.size s0) : Int) else if 0 > j1 then 0 else j1) then
    if 0 ≤ j3 then
      if j3 < (↑(ByteArray.size s0) : Int) then
        bif bt s0 j3 == 10 then
          lex_Where_l4 n s0 j1 i0 (IntKind.wrap IntKind.i64 (j2 + 1)) (IntKind.wrap IntKind.i64 (j3 + 1)) 1
        else lex_Where_l4 n s0 j1 i0 j2 (IntKind.wrap IntKind.i64 (j3 + 1)) (IntKind.wrap IntKind.i64 (j4 + 1))
      else none
    else none
  else some ((j2, (j4, ())), ()) := by kernel_rfl
theorem lex_Where_e (n : Nat) (s0 : ByteArray) (j1 : Int) : lex_Where_v n s0 j1 =
  lex_Where_l4 n s0 j1 n 1 0 1 := by kernel_rfl
theorem lex_Where_c (n : Nat) (s0 : ByteArray) (j1 : Int) (y : (Int × Int × Unit) × Unit) (h : lex_Where_v n s0 j1 = some y) : Contract Try.prog 18 [AV.dv (DV.val (Value.string s0)), AV.dv (DV.val (Value.int IntKind.i64 j1))] [] (OSh.enc (OSh.plain (.tup [.i IntKind.i64, .i IntKind.i64]) []) y) :=
  auto_okM tm_std (with_ok mixed (by kernel_rfl) (lex_Where_σok n) n 0 []) (with_pick mixed (by kernel_rfl) (lex_Where_σok n) n 0 []) mixed Try.func18 (by decide) (o := (OSh.plain (.tup [.i IntKind.i64, .i IntKind.i64]) [])) h
/-! law07_live: function 17 -/
def law07_live_lv : Live := []
noncomputable def law07_live_σ (n : Nat) : Spec := (inst 14 [.s] [] (OSh.plain (.tup [.slt [Kd.i IntKind.i64, Kd.s, Kd.i IntKind.i64, Kd.i IntKind.i64] 0, .i IntKind.i64, .i IntKind.i64]) []) (fun x e => lex_Tokens_v n x.1) (inst 18 [.s, .i IntKind.i64] [] (OSh.plain (.tup [.i IntKind.i64, .i IntKind.i64]) []) (fun x e => lex_Where_v n x.1 x.2.1) Spec.none))
theorem law07_live_σok (n : Nat) : SpecOk Try.prog (law07_live_σ n) := (inst_ok (fun x e y h => lex_Tokens_c n x.1 y h) (inst_ok (fun x e y h => lex_Where_c n x.1 x.2.1 y h) (SpecOk.none _)))
noncomputable def law07_live_Φ (n : Nat) : Orc := with_ Try.prog (law07_live_σ n) [] n 0 []
noncomputable def law07_live_v (n : Nat) : Option (Bool × Unit) :=
  DM.denFn tm (law07_live_Φ n) law07_live_lv n Try.f17 false [] [] (OSh.chk (OSh.plain (.b) []))
theorem law07_live_e (n : Nat) : law07_live_v n =
  obind (lex_Tokens_v n (ByteArray.mk #[112, 40, 88, 41, 32, 58, 45, 32, 113, 46])) fun y0 =>
  obind (lex_Tokens_v n (ByteArray.mk #[48, 48, 55])) fun y1 =>
  obind (lex_Where_v n (ByteArray.mk #[97, 10, 98]) 2) fun y2 =>
  bif y0.fst.snd.snd.fst == 0 then
    bif (↑(List.length y0.fst.fst.snd) : Int) == 7 then
      if 4 < (↑(List.length y0.fst.fst.snd) : Int) then
        bif Row.S (List.getD y0.fst.fst.snd 4 []) 1 == ByteArray.mk #[58, 45] then
          if 6 < (↑(List.length y0.fst.fst.snd) : Int) then
            bif Row.I (List.getD y0.fst.fst.snd 6 []) 3 == 9 then
              bif y1.fst.snd.fst == 0 then
                bif y1.fst.snd.snd.fst == 70 then
                  bif y2.fst.fst == 2 then
                    some (y2.fst.snd.fst == 1, ())
                  else some (false, ())
                else some (false, ())
              else some (false, ())
            else some (false, ())
          else none
        else some (false, ())
      else none
    else some (false, ())
  else some (false, ()) := by kernel_rfl
theorem law07_live_c (n : Nat) (y : Bool × Unit) (h : law07_live_v n = some y) : Contract Try.prog 17 [] [] (OSh.enc (OSh.plain (.b) []) y) :=
  auto_okM tm_std (with_ok mixed (by kernel_rfl) (law07_live_σok n) n 0 []) (with_pick mixed (by kernel_rfl) (law07_live_σok n) n 0 []) mixed Try.func17 (by decide) (o := (OSh.plain (.b) [])) h
/-! law07_LexTokens: function 3 -/
def law07_LexTokens_lv : Live := []
noncomputable def law07_LexTokens_σ (n : Nat) : Spec := (inst 14 [.s] [] (OSh.plain (.tup [.slt [Kd.i IntKind.i64, Kd.s, Kd.i IntKind.i64, Kd.i IntKind.i64] 0, .i IntKind.i64, .i IntKind.i64]) []) (fun x e => lex_Tokens_v n x.1) (inst 15 [.s] [] (OSh.plain (.tup [.slt [Kd.i IntKind.i64, Kd.s, Kd.i IntKind.i64, Kd.i IntKind.i64] 0, .i IntKind.i64, .i IntKind.i64]) []) (fun x e => ref07_Tokens_v n x.1) (inst 16 [.sl [Kd.i IntKind.i64, Kd.s, Kd.i IntKind.i64, Kd.i IntKind.i64], .sl [Kd.i IntKind.i64, Kd.s, Kd.i IntKind.i64, Kd.i IntKind.i64]] [] (OSh.plain (.b) []) (fun x e => ref07_Like_v n x.1.1 x.1.2 x.2.1.1 x.2.1.2) (inst 17 [] [] (OSh.plain (.b) []) (fun x e => law07_live_v n) Spec.none))))
theorem law07_LexTokens_σok (n : Nat) : SpecOk Try.prog (law07_LexTokens_σ n) := (inst_ok (fun x e y h => lex_Tokens_c n x.1 y h) (inst_ok (fun x e y h => ref07_Tokens_c n x.1 y h) (inst_ok (fun x e y h => ref07_Like_c n x.1.1 x.1.2 x.2.1.1 x.2.1.2 y h) (inst_ok (fun x e y h => law07_live_c n y h) (SpecOk.none _)))))
noncomputable def law07_LexTokens_Φ (n : Nat) : Orc := with_ Try.prog (law07_LexTokens_σ n) [] n 0 []
noncomputable def law07_LexTokens_v (n : Nat) (s0 : ByteArray) : Option (Bool × Unit) :=
  DM.denFn tm (law07_LexTokens_Φ n) law07_LexTokens_lv n Try.f3 false [AV.dv (DV.val (Value.string s0))] [] (OSh.chk (OSh.plain (.b) []))
theorem law07_LexTokens_e (n : Nat) (s0 : ByteArray) : law07_LexTokens_v n s0 =
  obind (lex_Tokens_v n s0) fun y1 =>
  obind (ref07_Tokens_v n s0) fun y2 =>
  obind (ref07_Like_v n y1.fst.fst.fst y1.fst.fst.snd y2.fst.fst.fst y2.fst.fst.snd) fun y3 =>
  bif y3.fst then
    bif y1.fst.snd.fst == y2.fst.snd.fst then
      bif y1.fst.snd.snd.fst == y2.fst.snd.snd.fst then
        obind (law07_live_v n) fun y4 =>
        some (y4.fst, ())
      else some (false, ())
    else some (false, ())
  else some (false, ()) := by kernel_rfl
theorem law07_LexTokens_c (n : Nat) (s0 : ByteArray) (y : Bool × Unit) (h : law07_LexTokens_v n s0 = some y) : Contract Try.prog 3 [AV.dv (DV.val (Value.string s0))] [] (OSh.enc (OSh.plain (.b) []) y) :=
  auto_okM tm_std (with_ok mixed (by kernel_rfl) (law07_LexTokens_σok n) n 0 []) (with_pick mixed (by kernel_rfl) (law07_LexTokens_σok n) n 0 []) mixed Try.func3 (by decide) (o := (OSh.plain (.b) [])) h
/-! ref07_Where: function 19 -/
def ref07_Where_lv : Live := [(8, [0, 1, 6, 7, 8], [1000, 1001, 1002, 1003])]
noncomputable def ref07_Where_σ (n : Nat) : Spec := Spec.none
theorem ref07_Where_σok (n : Nat) : SpecOk Try.prog (ref07_Where_σ n) := (SpecOk.none _)
noncomputable def ref07_Where_Φ (n : Nat) : Orc := with_ Try.prog (ref07_Where_σ n) [] n 0 []
noncomputable def ref07_Where_v (n : Nat) (s0 : ByteArray) (j1 : Int) : Option ((Int × Int × Unit) × Unit) :=
  DM.denFn tm (ref07_Where_Φ n) ref07_Where_lv n Try.f19 false [AV.dv (DV.val (Value.string s0)), AV.dv (DV.val (Value.int IntKind.i64 j1))] [] (OSh.chk (OSh.plain (.tup [.i IntKind.i64, .i IntKind.i64]) []))
noncomputable def ref07_Where_l8 (n : Nat) (s0 : ByteArray) (j1 : Int) (i0 : Nat) (j2 : Int) (j3 : Int) (j4 : Int) (j5 : Int) : Option ((Int × Int × Unit) × Unit) :=
  DM.loopFn tm (ref07_Where_Φ n) ref07_Where_lv n Try.f19 false [] (OSh.chk (OSh.plain (.tup [.i IntKind.i64, .i IntKind.i64]) [])) 8 [] i0 (St.mk [AV.dv (DV.val (Value.string s0)), AV.dv (DV.val (Value.int IntKind.i64 j2)), AV.junk, AV.junk, AV.junk, AV.junk, AV.dv (DV.val (Value.int IntKind.i64 j3)), AV.dv (DV.val (Value.int IntKind.i64 j4)), AV.dv (DV.val (Value.int IntKind.i64 j5)), AV.junk, AV.junk, AV.junk, AV.junk, AV.junk, AV.junk, AV.junk, AV.junk, AV.junk, AV.junk, AV.junk, AV.junk, AV.junk, AV.junk, AV.junk, AV.junk, AV.junk, AV.junk, AV.junk, AV.junk, AV.junk, AV.junk, AV.junk, AV.junk] [])
theorem ref07_Where_s8 (n : Nat) (s0 : ByteArray) (j1 : Int) (i0 : Nat) (j2 : Int) (j3 : Int) (j4 : Int) (j5 : Int) : ref07_Where_l8 n s0 j1 (i0 + 1) j2 j3 j4 j5 =
  bif decide (j5 < j2) then
    if 0 ≤ j5 then
      if j5 < (↑(ByteArray.size s0) : Int) then
        bif bt s0 j5 == 10 then
          ref07_Where_l8 n s0 j1 i0 j2 (IntKind.wrap IntKind.i64 (j3 + 1)) j5 (IntKind.wrap IntKind.i64 (j5 + 1))
        else ref07_Where_l8 n s0 j1 i0 j2 j3 j4 (IntKind.wrap IntKind.i64 (j5 + 1))
      else none
    else none
  else some ((j3, (IntKind.wrap IntKind.i64 (j2 - j4), ())), ()) := by kernel_rfl
theorem ref07_Where_e (n : Nat) (s0 : ByteArray) (j1 : Int) : ref07_Where_v n s0 j1 =
  bif decide (j1 < 0) then
    ref07_Where_l8 n s0 j1 n 0 1 (-1) 0
  else bif decide (j1 > (↑(ByteArray.size s0) : Int)) then
    ref07_Where_l8 n s0 j1 n ((↑(ByteArray.size s0) : Int)) 1 (-1) 0
  else ref07_Where_l8 n s0 j1 n j1 1 (-1) 0 := by kernel_rfl
theorem ref07_Where_c (n : Nat) (s0 : ByteArray) (j1 : Int) (y : (Int × Int × Unit) × Unit) (h : ref07_Where_v n s0 j1 = some y) : Contract Try.prog 19 [AV.dv (DV.val (Value.string s0)), AV.dv (DV.val (Value.int IntKind.i64 j1))] [] (OSh.enc (OSh.plain (.tup [.i IntKind.i64, .i IntKind.i64]) []) y) :=
  auto_okM tm_std (with_ok mixed (by kernel_rfl) (ref07_Where_σok n) n 0 []) (with_pick mixed (by kernel_rfl) (ref07_Where_σok n) n 0 []) mixed Try.func19 (by decide) (o := (OSh.plain (.tup [.i IntKind.i64, .i IntKind.i64]) [])) h
/-! law07_LexWheres: function 4 -/
def law07_LexWheres_lv : Live := []
noncomputable def law07_LexWheres_σ (n : Nat) : Spec := (inst 17 [] [] (OSh.plain (.b) []) (fun x e => law07_live_v n) (inst 18 [.s, .i IntKind.i64] [] (OSh.plain (.tup [.i IntKind.i64, .i IntKind.i64]) []) (fun x e => lex_Where_v n x.1 x.2.1) (inst 19 [.s, .i IntKind.i64] [] (OSh.plain (.tup [.i IntKind.i64, .i IntKind.i64]) []) (fun x e => ref07_Where_v n x.1 x.2.1) Spec.none)))
theorem law07_LexWheres_σok (n : Nat) : SpecOk Try.prog (law07_LexWheres_σ n) := (inst_ok (fun x e y h => law07_live_c n y h) (inst_ok (fun x e y h => lex_Where_c n x.1 x.2.1 y h) (inst_ok (fun x e y h => ref07_Where_c n x.1 x.2.1 y h) (SpecOk.none _))))
noncomputable def law07_LexWheres_Φ (n : Nat) : Orc := with_ Try.prog (law07_LexWheres_σ n) [] n 0 []
noncomputable def law07_LexWheres_v (n : Nat) (s0 : ByteArray) (j1 : Int) : Option (Bool × Unit) :=
  DM.denFn tm (law07_LexWheres_Φ n) law07_LexWheres_lv n Try.f4 false [AV.dv (DV.val (Value.string s0)), AV.dv (DV.val (Value.int IntKind.i64 j1))] [] (OSh.chk (OSh.plain (.b) []))
theorem law07_LexWheres_e (n : Nat) (s0 : ByteArray) (j1 : Int) : law07_LexWheres_v n s0 j1 =
  bif decide ((↑(ByteArray.size s0) : Int) > 10000) then
    obind (law07_live_v n) fun y2 =>
    some (y2.fst, ())
  else obind (lex_Where_v n s0 j1) fun y3 =>
  obind (ref07_Where_v n s0 j1) fun y4 =>
  bif y3.fst.fst == y4.fst.fst then
    bif y3.fst.snd.fst == y4.fst.snd.fst then
      obind (law07_live_v n) fun y5 =>
      some (y5.fst, ())
    else some (false, ())
  else some (false, ()) := by kernel_rfl
theorem law07_LexWheres_c (n : Nat) (s0 : ByteArray) (j1 : Int) (y : Bool × Unit) (h : law07_LexWheres_v n s0 j1 = some y) : Contract Try.prog 4 [AV.dv (DV.val (Value.string s0)), AV.dv (DV.val (Value.int IntKind.i64 j1))] [] (OSh.enc (OSh.plain (.b) []) y) :=
  auto_okM tm_std (with_ok mixed (by kernel_rfl) (law07_LexWheres_σok n) n 0 []) (with_pick mixed (by kernel_rfl) (law07_LexWheres_σok n) n 0 []) mixed Try.func4 (by decide) (o := (OSh.plain (.b) [])) h
/-! law07_LexCovers: function 5 -/
def law07_LexCovers_lv : Live := [(6, [0, 3, 6, 7], [1000, 1001, 1002, 1003])]
noncomputable def law07_LexCovers_σ (n : Nat) : Spec := (inst 14 [.s] [] (OSh.plain (.tup [.slt [Kd.i IntKind.i64, Kd.s, Kd.i IntKind.i64, Kd.i IntKind.i64] 0, .i IntKind.i64, .i IntKind.i64]) []) (fun x e => lex_Tokens_v n x.1) (inst 17 [] [] (OSh.plain (.b) []) (fun x e => law07_live_v n) (inst 20 [.s, .i IntKind.i64] [] (OSh.plain (.i IntKind.i64) []) (fun x e => ref07_Skip_v n x.1 x.2.1) (inst 21 [.s, .i IntKind.i64] [] (OSh.plain (.tup [.agg [.i IntKind.i64, .s, .i IntKind.i64, .i IntKind.i64], .i IntKind.i64]) []) (fun x e => ref07_One_v n x.1 x.2.1) Spec.none))))
theorem law07_LexCovers_σok (n : Nat) : SpecOk Try.prog (law07_LexCovers_σ n) := (inst_ok (fun x e y h => lex_Tokens_c n x.1 y h) (inst_ok (fun x e y h => law07_live_c n y h) (inst_ok (fun x e y h => ref07_Skip_c n x.1 x.2.1 y h) (inst_ok (fun x e y h => ref07_One_c n x.1 x.2.1 y h) (SpecOk.none _)))))
noncomputable def law07_LexCovers_Φ (n : Nat) : Orc := with_ Try.prog (law07_LexCovers_σ n) [] n 0 []
noncomputable def law07_LexCovers_v (n : Nat) (s0 : ByteArray) : Option (Bool × Unit) :=
  DM.denFn tm (law07_LexCovers_Φ n) law07_LexCovers_lv n Try.f5 false [AV.dv (DV.val (Value.string s0))] [] (OSh.chk (OSh.plain (.b) []))
noncomputable def law07_LexCovers_l6 (n : Nat) (s0 : ByteArray) (i0 : Nat) (b3 : Bool) (r4 : List (List DV)) (j9 : Int) (j10 : Int) : Option (Bool × Unit) :=
  DM.loopFn tm (law07_LexCovers_Φ n) law07_LexCovers_lv n Try.f5 false [] (OSh.chk (OSh.plain (.b) [])) 6 [] i0 (St.mk [AV.dv (DV.val (Value.string s0)), AV.junk, AV.junk, AV.sl b3 [Kd.i IntKind.i64, Kd.s, Kd.i IntKind.i64, Kd.i IntKind.i64] r4 (Right.tok 3), AV.junk, AV.junk, AV.dv (DV.val (Value.int IntKind.i64 j9)), AV.dv (DV.val (Value.int IntKind.i64 j10)), AV.junk, AV.junk, AV.junk, AV.junk, AV.junk, AV.junk, AV.junk, AV.junk, AV.junk, AV.junk, AV.junk, AV.junk, AV.junk, AV.junk, AV.junk, AV.junk, AV.junk, AV.junk, AV.junk, AV.junk, AV.junk, AV.junk, AV.junk, AV.junk, AV.junk, AV.junk, AV.junk, AV.junk, AV.junk, AV.junk, AV.junk, AV.junk, AV.junk, AV.junk, AV.junk, AV.junk, AV.junk, AV.junk, AV.junk, AV.junk, AV.junk, AV.junk, AV.junk, AV.junk, AV.junk, AV.junk, AV.junk, AV.junk, AV.junk, AV.junk, AV.junk, AV.junk, AV.junk, AV.junk, AV.junk, AV.junk, AV.junk, AV.junk, AV.junk, AV.junk, AV.junk, AV.junk, AV.junk, AV.junk, AV.junk, AV.junk, AV.junk, AV.junk, AV.junk, AV.junk, AV.junk, AV.junk, AV.junk, AV.junk, AV.junk, AV.junk, AV.junk, AV.junk, AV.junk, AV.junk, AV.junk, AV.junk] [])
theorem law07_LexCovers_s6 (n : Nat) (s0 : ByteArray) (i0 : Nat) (b3 : Bool) (r4 : List (List DV)) (j9 : Int) (j10 : Int) : law07_LexCovers_l6 n s0 (i0 + 1) b3 r4 j9 j10 =
  bif decide (j10 < (↑(List.length r4) : Int)) then
    if 0 ≤ j10 then
      if j10 < (↑(List.length r4) : Int) then
        bif decide (Row.I (List.getD r4 (Int.toNat j10) []) 3 < j9) then
          some (false, ())
        else bif decide (Row.I (List.getD r4 (Int.toNat j10) []) 3 ≥ (↑(ByteArray.size s0) : Int)) then
          some (false, ())
        else obind (ref07_Skip_v n s0 j9) fun y11 =>
        bif y11.fst != Row.I (List.getD r4 (Int.toNat j10) []) 3 then
          some (false, ())
        else obind (ref07_One_v n s0 (Row.I (List.getD r4 (Int.toNat j10) []) 3)) fun y12 =>
        bif !(y12.fst.fst.fst == Row.I (List.getD r4 (Int.toNat j10) []) 0 && (y12.fst.fst.snd.fst == Row.S (List.getD r4 (Int.toNat j10) []) 1 && (y12.fst.fst.snd.snd.fst == Row.I (List.getD r4 (Int.toNat j10) []) 2 && (y12.fst.fst.snd.snd.snd.fst == Row.I (List.getD r4 (Int.toNat j10) []) 3 && true)))) then
          some (false, ())
        else bif decide (y12.fst.snd.fst ≤ Row.I (List.getD r4 (Int.toNat j10) []) 3) then
          some (false, ())
        else law07_LexCovers_l6 n s0 i0 b3 r4 y12.fst.snd.fst (IntKind.wrap IntKind.i64 (j10 + 1))
      else none
    else none
  else obind (ref07_Skip_v n s0 j9) fun y13 =>
  bif y13.fst == (↑(ByteArray.size s0) : Int) then
    obind (law07_live_v n) fun y14 =>
    some (y14.fst, ())
  else some (false, ()) := by kernel_rfl
theorem law07_LexCovers_e (n : Nat) (s0 : ByteArray) : law07_LexCovers_v n s0 =
  obind (lex_Tokens_v n s0) fun y1 =>
  bif y1.fst.snd.snd.fst != 0 then
    bif (↑(List.length y1.fst.fst.snd) : Int) == 0 then
      bif decide (y1.fst.snd.fst ≥ 0) then
        bif decide (y1.fst.snd.fst ≤ (↑(ByteArray.size s0) : Int)) then
          obind (law07_live_v n) fun y2 =>
          some (y2.fst, ())
        else some (false, ())
      else some (false, ())
    else some (false, ())
  else law07_LexCovers_l6 n s0 n y1.fst.fst.fst y1.fst.fst.snd 0 0 := by kernel_rfl
theorem law07_LexCovers_c (n : Nat) (s0 : ByteArray) (y : Bool × Unit) (h : law07_LexCovers_v n s0 = some y) : Contract Try.prog 5 [AV.dv (DV.val (Value.string s0))] [] (OSh.enc (OSh.plain (.b) []) y) :=
  auto_okM tm_std (with_ok mixed (by kernel_rfl) (law07_LexCovers_σok n) n 0 []) (with_pick mixed (by kernel_rfl) (law07_LexCovers_σok n) n 0 []) mixed Try.func5 (by decide) (o := (OSh.plain (.b) [])) h
/-! law07_LexJoins: function 6 -/
def law07_LexJoins_lv : Live := [(9, [0, 5, 8, 11, 14], [1000, 1001, 1002, 1003])]
noncomputable def law07_LexJoins_σ (n : Nat) : Spec := (inst 14 [.s] [] (OSh.plain (.tup [.slt [Kd.i IntKind.i64, Kd.s, Kd.i IntKind.i64, Kd.i IntKind.i64] 0, .i IntKind.i64, .i IntKind.i64]) []) (fun x e => lex_Tokens_v n x.1) (inst 17 [] [] (OSh.plain (.b) []) (fun x e => law07_live_v n) Spec.none))
theorem law07_LexJoins_σok (n : Nat) : SpecOk Try.prog (law07_LexJoins_σ n) := (inst_ok (fun x e y h => lex_Tokens_c n x.1 y h) (inst_ok (fun x e y h => law07_live_c n y h) (SpecOk.none _)))
noncomputable def law07_LexJoins_Φ (n : Nat) : Orc := with_ Try.prog (law07_LexJoins_σ n) [] n 0 []
noncomputable def law07_LexJoins_v (n : Nat) (s0 : ByteArray) (s1 : ByteArray) : Option (Bool × Unit) :=
  DM.denFn tm (law07_LexJoins_Φ n) law07_LexJoins_lv n Try.f6 false [AV.dv (DV.val (Value.string s0)), AV.dv (DV.val (Value.string s1))] [] (OSh.chk (OSh.plain (.b) []))
noncomputable def law07_LexJoins_l9 (n : Nat) (s0 : ByteArray) (s1 : ByteArray) (i0 : Nat) (b8 : Bool) (r9 : List (List DV)) (b10 : Bool) (r11 : List (List DV)) (b12 : Bool) (r13 : List (List DV)) (j15 : Int) : Option (Bool × Unit) :=
  DM.loopFn tm (law07_LexJoins_Φ n) law07_LexJoins_lv n Try.f6 false [] (OSh.chk (OSh.plain (.b) [])) 9 [] i0 (St.mk [AV.dv (DV.val (Value.string s0)), AV.junk, AV.junk, AV.junk, AV.junk, AV.sl b8 [Kd.i IntKind.i64, Kd.s, Kd.i IntKind.i64, Kd.i IntKind.i64] r9 (Right.tok 5), AV.junk, AV.junk, AV.sl b10 [Kd.i IntKind.i64, Kd.s, Kd.i IntKind.i64, Kd.i IntKind.i64] r11 (Right.tok 8), AV.junk, AV.junk, AV.sl b12 [Kd.i IntKind.i64, Kd.s, Kd.i IntKind.i64, Kd.i IntKind.i64] r13 (Right.tok 11), AV.junk, AV.junk, AV.dv (DV.val (Value.int IntKind.i64 j15)), AV.junk, AV.junk, AV.junk, AV.junk, AV.junk, AV.junk, AV.junk, AV.junk, AV.junk, AV.junk, AV.junk, AV.junk, AV.junk, AV.junk, AV.junk, AV.junk, AV.junk, AV.junk, AV.junk, AV.junk, AV.junk, AV.junk, AV.junk, AV.junk, AV.junk, AV.junk, AV.junk, AV.junk, AV.junk, AV.junk, AV.junk, AV.junk, AV.junk, AV.junk, AV.junk, AV.junk, AV.junk, AV.junk, AV.junk, AV.junk, AV.junk, AV.junk, AV.junk, AV.junk, AV.junk, AV.junk, AV.junk, AV.junk, AV.junk, AV.junk, AV.junk, AV.junk, AV.junk, AV.junk, AV.junk, AV.junk, AV.junk, AV.junk, AV.junk, AV.junk, AV.junk, AV.junk, AV.junk, AV.junk, AV.junk, AV.junk, AV.junk, AV.junk, AV.junk, AV.junk, AV.junk, AV.junk, AV.junk, AV.junk, AV.junk, AV.junk, AV.junk, AV.junk, AV.junk, AV.junk, AV.junk, AV.junk, AV.junk, AV.junk, AV.junk, AV.junk] [])
theorem law07_LexJoins_s9 (n : Nat) (s0 : ByteArray) (s1 : ByteArray) (i0 : Nat) (b8 : Bool) (r9 : List (List DV)) (b10 : Bool) (r11 : List (List DV)) (b12 : Bool) (r13 : List (List DV)) (j15 : Int) : law07_LexJoins_l9 n s0 s1 (i0 + 1) b8 r9 b10 r11 b12 r13 j15 =
  bif decide (j15 < (↑(List.length r13) : Int)) then
    if 0 ≤ j15 then
      if j15 < (↑(List.length r13) : Int) then
        bif decide (j15 < (↑(List.length r9) : Int)) then
          if 0 ≤ j15 then
            if j15 < (↑(List.length r9) : Int) then
              bif !(Row.I (List.getD r13 (Int.toNat j15) []) 0 == Row.I (List.getD r9 (Int.toNat j15) []) 0 && (Row.S (List.getD r13 (Int.toNat j15) []) 1 == Row.S (List.getD r9 (Int.toNat j15) []) 1 && (Row.I (List.getD r13 (Int.toNat j15) []) 2 == Row.I (List.getD r9 (Int.toNat j15) []) 2 && (Row.I (List.getD r13 (Int.toNat j15) []) 3 == Row.I (List.getD r9 (Int.toNat j15) []) 3 && true)))) then
                some (false, ())
              else law07_LexJoins_l9 n s0 s1 i0 b8 r9 b10 r11 b12 r13 (IntKind.wrap IntKind.i64 (j15 + 1))
            else none
          else none
        else if 0 ≤ IntKind.wrap IntKind.i64 (j15 - (↑(List.length r9) : Int)) then
          if IntKind.wrap IntKind.i64 (j15 - (↑(List.length r9) : Int)) < (↑(List.length r11) : Int) then
            bif !(Row.I (List.getD r13 (Int.toNat j15) []) 0 == Row.I (List.getD r11 (Int.toNat (IntKind.wrap IntKind.i64 (j15 - (↑(List.length r9) : Int)))) []) 0 && (Row.S (List.getD r13 (Int.toNat j15) []) 1 == Row.S (List.getD r11 (Int.toNat (IntKind.wrap IntKind.i64 (j15 - (↑(List.length r9) : Int)))) []) 1 && (Row.I (List.getD r13 (Int.toNat j15) []) 2 == Row.I (List.getD r11 (Int.toNat (IntKind.wrap IntKind.i64 (j15 - (↑(List.length r9) : Int)))) []) 2 && (IntKind.wrap IntKind.i64 (IntKind.wrap IntKind.i64 (Row.I (List.getD r13 (Int.toNat j15) []) 3 - (↑(ByteArray.size s0) : Int)) - 1) == Row.I (List.getD r11 (Int.toNat (IntKind.wrap IntKind.i64 (j15 - (↑(List.length r9) : Int)))) []) 3 && true)))) then
              some (false, ())
            else law07_LexJoins_l9 n s0 s1 i0 b8 r9 b10 r11 b12 r13 (IntKind.wrap IntKind.i64 (j15 + 1))
          else none
        else none
      else none
    else none
  else obind (law07_live_v n) fun y16 =>
  some (y16.fst, ()) := by kernel_rfl
theorem law07_LexJoins_e (n : Nat) (s0 : ByteArray) (s1 : ByteArray) : law07_LexJoins_v n s0 s1 =
  obind (lex_Tokens_v n s0) fun y2 =>
  obind (lex_Tokens_v n s1) fun y3 =>
  bif y2.fst.snd.snd.fst != 0 then
    obind (law07_live_v n) fun y4 =>
    some (y4.fst, ())
  else bif y3.fst.snd.snd.fst != 0 then
    obind (law07_live_v n) fun y5 =>
    some (y5.fst, ())
  else bif decide ((↑(ByteArray.size s0) : Int) > IntKind.wrap IntKind.i64 (4095 - (↑(ByteArray.size s1) : Int))) then
    obind (law07_live_v n) fun y6 =>
    some (y6.fst, ())
  else if ByteArray.size s0 + 1 < 4611686018427387904 then
    if ByteArray.size (s0 ++ ByteArray.mk #[10]) + ByteArray.size s1 < 4611686018427387904 then
      obind (lex_Tokens_v n (s0 ++ ByteArray.mk #[10] ++ s1)) fun y7 =>
      bif y7.fst.snd.snd.fst != 0 then
        some (false, ())
      else bif (↑(List.length y7.fst.fst.snd) : Int) != IntKind.wrap IntKind.i64 ((↑(List.length y2.fst.fst.snd) : Int) + (↑(List.length y3.fst.fst.snd) : Int)) then
        some (false, ())
      else law07_LexJoins_l9 n s0 s1 n y2.fst.fst.fst y2.fst.fst.snd y3.fst.fst.fst y3.fst.fst.snd y7.fst.fst.fst y7.fst.fst.snd 0
    else none
  else none := by kernel_rfl
theorem law07_LexJoins_c (n : Nat) (s0 : ByteArray) (s1 : ByteArray) (y : Bool × Unit) (h : law07_LexJoins_v n s0 s1 = some y) : Contract Try.prog 6 [AV.dv (DV.val (Value.string s0)), AV.dv (DV.val (Value.string s1))] [] (OSh.enc (OSh.plain (.b) []) y) :=
  auto_okM tm_std (with_ok mixed (by kernel_rfl) (law07_LexJoins_σok n) n 0 []) (with_pick mixed (by kernel_rfl) (law07_LexJoins_σok n) n 0 []) mixed Try.func6 (by decide) (o := (OSh.plain (.b) [])) h
/-! law07_LexBlanks: function 7 -/
def law07_LexBlanks_lv : Live := []
noncomputable def law07_LexBlanks_σ (n : Nat) : Spec := (inst 14 [.s] [] (OSh.plain (.tup [.slt [Kd.i IntKind.i64, Kd.s, Kd.i IntKind.i64, Kd.i IntKind.i64] 0, .i IntKind.i64, .i IntKind.i64]) []) (fun x e => lex_Tokens_v n x.1) (inst 17 [] [] (OSh.plain (.b) []) (fun x e => law07_live_v n) (inst 16 [.sl [Kd.i IntKind.i64, Kd.s, Kd.i IntKind.i64, Kd.i IntKind.i64], .sl [Kd.i IntKind.i64, Kd.s, Kd.i IntKind.i64, Kd.i IntKind.i64]] [] (OSh.plain (.b) []) (fun x e => ref07_Like_v n x.1.1 x.1.2 x.2.1.1 x.2.1.2) Spec.none)))
theorem law07_LexBlanks_σok (n : Nat) : SpecOk Try.prog (law07_LexBlanks_σ n) := (inst_ok (fun x e y h => lex_Tokens_c n x.1 y h) (inst_ok (fun x e y h => law07_live_c n y h) (inst_ok (fun x e y h => ref07_Like_c n x.1.1 x.1.2 x.2.1.1 x.2.1.2 y h) (SpecOk.none _))))
noncomputable def law07_LexBlanks_Φ (n : Nat) : Orc := with_ Try.prog (law07_LexBlanks_σ n) [] n 0 []
noncomputable def law07_LexBlanks_v (n : Nat) (s0 : ByteArray) (j1 : Int) : Option (Bool × Unit) :=
  DM.denFn tm (law07_LexBlanks_Φ n) law07_LexBlanks_lv n Try.f7 false [AV.dv (DV.val (Value.string s0)), AV.dv (DV.val (Value.int IntKind.i64 j1))] [] (OSh.chk (OSh.plain (.b) []))
theorem law07_LexBlanks_e (n : Nat) (s0 : ByteArray) (j1 : Int) : law07_LexBlanks_v n s0 j1 =
  if 0 ≤ Int.tmod (IntKind.wrap IntKind.i64 (Int.tmod j1 4 + 4)) 4 then
    if Int.tmod (IntKind.wrap IntKind.i64 (Int.tmod j1 4 + 4)) 4 < (↑4 : Int) then
      obind (lex_Tokens_v n s0) fun y2 =>
      if ByteArray.size s0 + ByteArray.size (Row.S [DV.val (Value.string (ByteArray.mk #[32])), DV.val (Value.string (ByteArray.mk #[10])), DV.val (Value.string (ByteArray.mk #[9, 13])), DV.val (Value.string (ByteArray.mk #[10, 37, 32, 112, 40, 10]))] (Int.toNat (Int.tmod (IntKind.wrap IntKind.i64 (Int.tmod j1 4 + 4)) 4))) < 4611686018427387904 then
        obind (lex_Tokens_v n (s0 ++ Row.S [DV.val (Value.string (ByteArray.mk #[32])), DV.val (Value.string (ByteArray.mk #[10])), DV.val (Value.string (ByteArray.mk #[9, 13])), DV.val (Value.string (ByteArray.mk #[10, 37, 32, 112, 40, 10]))] (Int.toNat (Int.tmod (IntKind.wrap IntKind.i64 (Int.tmod j1 4 + 4)) 4)))) fun y3 =>
        bif y2.fst.snd.snd.fst == 3 then
          obind (law07_live_v n) fun y4 =>
          some (y4.fst, ())
        else bif y3.fst.snd.snd.fst == 3 then
          obind (law07_live_v n) fun y5 =>
          some (y5.fst, ())
        else obind (ref07_Like_v n y2.fst.fst.fst y2.fst.fst.snd y3.fst.fst.fst y3.fst.fst.snd) fun y6 =>
        bif y6.fst then
          bif y2.fst.snd.fst == y3.fst.snd.fst then
            bif y2.fst.snd.snd.fst == y3.fst.snd.snd.fst then
              obind (law07_live_v n) fun y7 =>
              some (y7.fst, ())
            else some (false, ())
          else some (false, ())
        else some (false, ())
      else none
    else none
  else none := by kernel_rfl
theorem law07_LexBlanks_c (n : Nat) (s0 : ByteArray) (j1 : Int) (y : Bool × Unit) (h : law07_LexBlanks_v n s0 j1 = some y) : Contract Try.prog 7 [AV.dv (DV.val (Value.string s0)), AV.dv (DV.val (Value.int IntKind.i64 j1))] [] (OSh.enc (OSh.plain (.b) []) y) :=
  auto_okM tm_std (with_ok mixed (by kernel_rfl) (law07_LexBlanks_σok n) n 0 []) (with_pick mixed (by kernel_rfl) (law07_LexBlanks_σok n) n 0 []) mixed Try.func7 (by decide) (o := (OSh.plain (.b) [])) h
/-! law07_LexNumbers: function 8 -/
def law07_LexNumbers_lv : Live := [(6, [0, 3, 4, 5], [1000, 1001, 1002, 1003])]
noncomputable def law07_LexNumbers_σ (n : Nat) : Spec := (inst 14 [.s] [] (OSh.plain (.tup [.slt [Kd.i IntKind.i64, Kd.s, Kd.i IntKind.i64, Kd.i IntKind.i64] 0, .i IntKind.i64, .i IntKind.i64]) []) (fun x e => lex_Tokens_v n x.1) (inst 17 [] [] (OSh.plain (.b) []) (fun x e => law07_live_v n) Spec.none))
theorem law07_LexNumbers_σok (n : Nat) : SpecOk Try.prog (law07_LexNumbers_σ n) := (inst_ok (fun x e y h => lex_Tokens_c n x.1 y h) (inst_ok (fun x e y h => law07_live_c n y h) (SpecOk.none _)))
noncomputable def law07_LexNumbers_Φ (n : Nat) : Orc := with_ Try.prog (law07_LexNumbers_σ n) [] n 0 []
noncomputable def law07_LexNumbers_v (n : Nat) (j0 : Int) : Option (Bool × Unit) :=
  DM.denFn tm (law07_LexNumbers_Φ n) law07_LexNumbers_lv n Try.f8 false [AV.dv (DV.val (Value.int IntKind.i64 j0))] [] (OSh.chk (OSh.plain (.b) []))
noncomputable def law07_LexNumbers_l6 (n : Nat) (j0 : Int) (i0 : Nat) (j1 : Int) (s2 : ByteArray) (j3 : Int) : Option (Bool × Unit) :=
  DM.loopFn tm (law07_LexNumbers_Φ n) law07_LexNumbers_lv n Try.f8 false [] (OSh.chk (OSh.plain (.b) [])) 6 [] i0 (St.mk [AV.dv (DV.val (Value.int IntKind.i64 j0)), AV.junk, AV.junk, AV.dv (DV.val (Value.string s2)), AV.dv (DV.val (Value.int IntKind.u64 j1)), AV.dv (DV.val (Value.int IntKind.i64 j3)), AV.junk, AV.junk, AV.junk, AV.junk, AV.junk, AV.junk, AV.junk, AV.junk, AV.junk, AV.junk, AV.junk, AV.junk, AV.junk, AV.junk, AV.junk, AV.junk, AV.junk, AV.junk, AV.junk, AV.junk, AV.junk, AV.junk, AV.junk, AV.junk, AV.junk, AV.junk, AV.junk, AV.junk, AV.junk, AV.junk, AV.junk, AV.junk, AV.junk, AV.junk, AV.junk, AV.junk, AV.junk, AV.junk, AV.junk, AV.junk, AV.junk, AV.junk, AV.junk, AV.junk, AV.junk, AV.junk, AV.junk, AV.junk, AV.junk, AV.junk, AV.junk, AV.junk, AV.junk, AV.junk, AV.junk, AV.junk, AV.junk, AV.junk, AV.junk, AV.junk, AV.junk, AV.junk, AV.junk, AV.junk, AV.junk, AV.junk, AV.junk, AV.junk, AV.junk, AV.junk, AV.junk, AV.junk, AV.junk, AV.junk, AV.junk, AV.junk, AV.junk, AV.junk, AV.junk, AV.junk, AV.junk, AV.junk, AV.junk, AV.junk, AV.junk, AV.junk, AV.junk, AV.junk, AV.junk, AV.junk, AV.junk] [])
theorem law07_LexNumbers_s6 (n : Nat) (j0 : Int) (i0 : Nat) (j1 : Int) (s2 : ByteArray) (j3 : Int) : law07_LexNumbers_l6 n j0 (i0 + 1) j1 s2 j3 =
  bif decide (j3 < 20) then
    bif decide (j1 > 0) then
      if ByteArray.size (bytesOf [[DV.val (Value.int IntKind.u8 (IntKind.wrap IntKind.u8 (IntKind.wrap IntKind.u64 (48 + Int.tmod j1 10))))]]) + ByteArray.size s2 < 4611686018427387904 then
        law07_LexNumbers_l6 n j0 i0 (IntKind.wrap IntKind.u64 (Int.tdiv j1 10)) (bytesOf [[DV.val (Value.int IntKind.u8 (IntKind.wrap IntKind.u8 (IntKind.wrap IntKind.u64 (48 + Int.tmod j1 10))))]] ++ s2) (IntKind.wrap IntKind.i64 (j3 + 1))
      else none
    else bif j3 == 0 then
      if ByteArray.size (bytesOf [[DV.val (Value.int IntKind.u8 (IntKind.wrap IntKind.u8 (IntKind.wrap IntKind.u64 (48 + Int.tmod j1 10))))]]) + ByteArray.size s2 < 4611686018427387904 then
        law07_LexNumbers_l6 n j0 i0 (IntKind.wrap IntKind.u64 (Int.tdiv j1 10)) (bytesOf [[DV.val (Value.int IntKind.u8 (IntKind.wrap IntKind.u8 (IntKind.wrap IntKind.u64 (48 + Int.tmod j1 10))))]] ++ s2) (IntKind.wrap IntKind.i64 (j3 + 1))
      else none
    else if 1 + ByteArray.size s2 < 4611686018427387904 then
      bif decide (j0 < 0) then
        if 1 + ByteArray.size s2 < 4611686018427387904 then
          if 1 + ByteArray.size (ByteArray.mk #[48] ++ s2) < 4611686018427387904 then
            obind (lex_Tokens_v n (ByteArray.mk #[45] ++ s2)) fun y4 =>
            obind (lex_Tokens_v n (ByteArray.mk #[45] ++ (ByteArray.mk #[48] ++ s2))) fun y5 =>
            bif y4.fst.snd.snd.fst == 0 then
              bif (↑(List.length y4.fst.fst.snd) : Int) == 1 then
                if 0 < (↑(List.length y4.fst.fst.snd) : Int) then
                  bif Row.I (List.getD y4.fst.fst.snd 0 []) 0 == 3 then
                    if 0 < (↑(List.length y4.fst.fst.snd) : Int) then
                      bif Row.I (List.getD y4.fst.fst.snd 0 []) 2 == j0 then
                        if 0 < (↑(List.length y4.fst.fst.snd) : Int) then
                          bif Row.S (List.getD y4.fst.fst.snd 0 []) 1 == ByteArray.mk #[] then
                            bif y5.fst.snd.snd.fst == 70 then
                              obind (law07_live_v n) fun y6 =>
                              some (y6.fst, ())
                            else some (false, ())
                          else some (false, ())
                        else none
                      else some (false, ())
                    else none
                  else some (false, ())
                else none
              else some (false, ())
            else some (false, ())
          else none
        else none
      else obind (lex_Tokens_v n s2) fun y7 =>
      obind (lex_Tokens_v n (ByteArray.mk #[48] ++ s2)) fun y8 =>
      bif y7.fst.snd.snd.fst == 0 then
        bif (↑(List.length y7.fst.fst.snd) : Int) == 1 then
          if 0 < (↑(List.length y7.fst.fst.snd) : Int) then
            bif Row.I (List.getD y7.fst.fst.snd 0 []) 0 == 3 then
              if 0 < (↑(List.length y7.fst.fst.snd) : Int) then
                bif Row.I (List.getD y7.fst.fst.snd 0 []) 2 == j0 then
                  if 0 < (↑(List.length y7.fst.fst.snd) : Int) then
                    bif Row.S (List.getD y7.fst.fst.snd 0 []) 1 == ByteArray.mk #[] then
                      bif y8.fst.snd.snd.fst == 70 then
                        obind (law07_live_v n) fun y9 =>
                        some (y9.fst, ())
                      else some (false, ())
                    else some (false, ())
                  else none
                else some (false, ())
              else none
            else some (false, ())
          else none
        else some (false, ())
      else some (false, ())
    else none
  else if 1 + ByteArray.size s2 < 4611686018427387904 then
    bif decide (j0 < 0) then
      if 1 + ByteArray.size s2 < 4611686018427387904 then
        if 1 + ByteArray.size (ByteArray.mk #[48] ++ s2) < 4611686018427387904 then
          obind (lex_Tokens_v n (ByteArray.mk #[45] ++ s2)) fun y10 =>
          obind (lex_Tokens_v n (ByteArray.mk #[45] ++ (ByteArray.mk #[48] ++ s2))) fun y11 =>
          bif y10.fst.snd.snd.fst == 0 then
            bif (↑(List.length y10.fst.fst.snd) : Int) == 1 then
              if 0 < (↑(List.length y10.fst.fst.snd) : Int) then
                bif Row.I (List.getD y10.fst.fst.snd 0 []) 0 == 3 then
                  if 0 < (↑(List.length y10.fst.fst.snd) : Int) then
                    bif Row.I (List.getD y10.fst.fst.snd 0 []) 2 == j0 then
                      if 0 < (↑(List.length y10.fst.fst.snd) : Int) then
                        bif Row.S (List.getD y10.fst.fst.snd 0 []) 1 == ByteArray.mk #[] then
                          bif y11.fst.snd.snd.fst == 70 then
                            obind (law07_live_v n) fun y12 =>
                            some (y12.fst, ())
                          else some (false, ())
                        else some (false, ())
                      else none
                    else some (false, ())
                  else none
                else some (false, ())
              else none
            else some (false, ())
          else some (false, ())
        else none
      else none
    else obind (lex_Tokens_v n s2) fun y13 =>
    obind (lex_Tokens_v n (ByteArray.mk #[48] ++ s2)) fun y14 =>
    bif y13.fst.snd.snd.fst == 0 then
      bif (↑(List.length y13.fst.fst.snd) : Int) == 1 then
        if 0 < (↑(List.length y13.fst.fst.snd) : Int) then
          bif Row.I (List.getD y13.fst.fst.snd 0 []) 0 == 3 then
            if 0 < (↑(List.length y13.fst.fst.snd) : Int) then
              bif Row.I (List.getD y13.fst.fst.snd 0 []) 2 == j0 then
                if 0 < (↑(List.length y13.fst.fst.snd) : Int) then
                  bif Row.S (List.getD y13.fst.fst.snd 0 []) 1 == ByteArray.mk #[] then
                    bif y14.fst.snd.snd.fst == 70 then
                      obind (law07_live_v n) fun y15 =>
                      some (y15.fst, ())
                    else some (false, ())
                  else some (false, ())
                else none
              else some (false, ())
            else none
          else some (false, ())
        else none
      else some (false, ())
    else some (false, ())
  else none := by kernel_rfl
theorem law07_LexNumbers_e (n : Nat) (j0 : Int) : law07_LexNumbers_v n j0 =
  bif decide (j0 < 0) then
    law07_LexNumbers_l6 n j0 n (IntKind.wrap IntKind.u64 (0 - IntKind.wrap IntKind.u64 j0)) (ByteArray.mk #[]) 0
  else law07_LexNumbers_l6 n j0 n (IntKind.wrap IntKind.u64 j0) (ByteArray.mk #[]) 0 := by kernel_rfl
theorem law07_LexNumbers_c (n : Nat) (j0 : Int) (y : Bool × Unit) (h : law07_LexNumbers_v n j0 = some y) : Contract Try.prog 8 [AV.dv (DV.val (Value.int IntKind.i64 j0))] [] (OSh.enc (OSh.plain (.b) []) y) :=
  auto_okM tm_std (with_ok mixed (by kernel_rfl) (law07_LexNumbers_σok n) n 0 []) (with_pick mixed (by kernel_rfl) (law07_LexNumbers_σok n) n 0 []) mixed Try.func8 (by decide) (o := (OSh.plain (.b) [])) h
end Go.Den
