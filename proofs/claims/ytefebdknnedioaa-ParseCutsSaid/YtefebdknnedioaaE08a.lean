import Derived.Test.YtefebdknnedioaaMemo0708
set_option linter.unusedVariables false
set_option linter.unusedSimpArgs false
set_option linter.unusedSectionVars false
namespace Go.Den
open Go.Proofs
set_option maxRecDepth 100000
/-! lex_blank: function 43 -/
def lex_blank_lv : Live := []
noncomputable def lex_blank_σ (n : Nat) : Spec := Spec.none
theorem lex_blank_σok (n : Nat) : SpecOk Try.prog (lex_blank_σ n) := (SpecOk.none _)
noncomputable def lex_blank_Φ (n : Nat) : Orc := with_ Try.prog (lex_blank_σ n) [] n 0 []
noncomputable def lex_blank_v (n : Nat) (j0 : Int) : Option (Bool × Unit) :=
  DM.denFn tm (lex_blank_Φ n) lex_blank_lv n Try.f43 false [AV.dv (DV.val (Value.int IntKind.u8 j0))] [] (OSh.chk (OSh.plain (.b) []))
theorem lex_blank_e (n : Nat) (j0 : Int) : lex_blank_v n j0 =
  bif j0 == 32 then
    some (true, ())
  else bif j0 == 9 then
    some (true, ())
  else bif j0 == 10 then
    some (true, ())
  else some (j0 == 13, ()) := by kernel_rfl
theorem lex_blank_c (n : Nat) (j0 : Int) (y : Bool × Unit) (h : lex_blank_v n j0 = some y) : Contract Try.prog 43 [AV.dv (DV.val (Value.int IntKind.u8 j0))] [] (OSh.enc (OSh.plain (.b) []) y) :=
  auto_okM tm_std (with_ok mixed (by kernel_rfl) (lex_blank_σok n) n 0 []) (with_pick mixed (by kernel_rfl) (lex_blank_σok n) n 0 []) mixed Try.func43 (by decide) (o := (OSh.plain (.b) [])) h
/-! lex_over: function 44 -/
def lex_over_lex_blank_lv : Live := [(1, [0, 1, 2], [1000, 1001, 1002, 1003])]
noncomputable def lex_over_lex_blank_σ (n : Nat) : Spec := (inst 43 [.i IntKind.u8] [] (OSh.plain (.b) []) (fun x e => lex_blank_v n x.1) Spec.none)
theorem lex_over_lex_blank_σok (n : Nat) : SpecOk Try.prog (lex_over_lex_blank_σ n) := (inst_ok (fun x e y h => lex_blank_c n x.1 y h) (SpecOk.none _))
noncomputable def lex_over_lex_blank_Φ (n : Nat) : Orc := with_ Try.prog (lex_over_lex_blank_σ n) [] n 0 []
noncomputable def lex_over_lex_blank_v (n : Nat) (s0 : ByteArray) (j1 : Int) : Option (Int × Unit) :=
  DM.denFn tm (lex_over_lex_blank_Φ n) lex_over_lex_blank_lv n Try.f44 false [AV.dv (DV.val (Value.string s0)), AV.dv (DV.val (Value.int IntKind.i64 j1)), AV.fn 43 []] [] (OSh.chk (OSh.plain (.i IntKind.i64) []))
noncomputable def lex_over_lex_blank_l1 (n : Nat) (s0 : ByteArray) (j1 : Int) (i0 : Nat) (j3 : Int) : Option (Int × Unit) :=
  DM.loopFn tm (lex_over_lex_blank_Φ n) lex_over_lex_blank_lv n Try.f44 false [] (OSh.chk (OSh.plain (.i IntKind.i64) [])) 1 [] i0 (St.mk [AV.dv (DV.val (Value.string s0)), AV.dv (DV.val (Value.int IntKind.i64 j3)), AV.fn 43 [], AV.junk, AV.junk, AV.junk, AV.junk, AV.junk, AV.junk, AV.junk, AV.junk, AV.junk, AV.junk, AV.junk, AV.junk, AV.junk, AV.junk, AV.junk, AV.junk, AV.junk, AV.junk] [])
theorem lex_over_lex_blank_s1 (n : Nat) (s0 : ByteArray) (j1 : Int) (i0 : Nat) (j3 : Int) : lex_over_lex_blank_l1 n s0 j1 (i0 + 1) j3 =
  bif decide (j3 < (↑(ByteArray.size s0) : Int)) then
    if 0 ≤ j3 then
      if j3 < (↑(ByteArray.size s0) : Int) then
        obind (lex_blank_v n (bt s0 j3)) fun y4 =>
        bif y4.fst then
          lex_over_lex_blank_l1 n s0 j1 i0 (IntKind.wrap IntKind.i64 (j3 + 1))
        else some (j3, ())
      else none
    else none
  else some (j3, ()) := by kernel_rfl
theorem lex_over_lex_blank_e (n : Nat) (s0 : ByteArray) (j1 : Int) : lex_over_lex_blank_v n s0 j1 =
  lex_over_lex_blank_l1 n s0 j1 n j1 := by kernel_rfl
theorem lex_over_lex_blank_c (n : Nat) (s0 : ByteArray) (j1 : Int) (y : Int × Unit) (h : lex_over_lex_blank_v n s0 j1 = some y) : Contract Try.prog 44 [AV.dv (DV.val (Value.string s0)), AV.dv (DV.val (Value.int IntKind.i64 j1)), AV.fn 43 []] [] (OSh.enc (OSh.plain (.i IntKind.i64) []) y) :=
  auto_okM tm_std (with_ok mixed (by kernel_rfl) (lex_over_lex_blank_σok n) n 0 []) (with_pick mixed (by kernel_rfl) (lex_over_lex_blank_σok n) n 0 []) mixed Try.func44 (by decide) (o := (OSh.plain (.i IntKind.i64) [])) h
/-! lex_skip_1: function 45 -/
def lex_skip_1_lv : Live := []
noncomputable def lex_skip_1_σ (n : Nat) : Spec := Spec.none
theorem lex_skip_1_σok (n : Nat) : SpecOk Try.prog (lex_skip_1_σ n) := (SpecOk.none _)
noncomputable def lex_skip_1_Φ (n : Nat) : Orc := with_ Try.prog (lex_skip_1_σ n) [] n 0 []
noncomputable def lex_skip_1_v (n : Nat) (j0 : Int) : Option (Bool × Unit) :=
  DM.denFn tm (lex_skip_1_Φ n) lex_skip_1_lv n Try.f45 false [AV.dv (DV.val (Value.int IntKind.u8 j0))] [] (OSh.chk (OSh.plain (.b) []))
theorem lex_skip_1_e (n : Nat) (j0 : Int) : lex_skip_1_v n j0 =
  some (j0 != 10, ()) := by kernel_rfl
theorem lex_skip_1_c (n : Nat) (j0 : Int) (y : Bool × Unit) (h : lex_skip_1_v n j0 = some y) : Contract Try.prog 45 [AV.dv (DV.val (Value.int IntKind.u8 j0))] [] (OSh.enc (OSh.plain (.b) []) y) :=
  auto_okM tm_std (with_ok mixed (by kernel_rfl) (lex_skip_1_σok n) n 0 []) (with_pick mixed (by kernel_rfl) (lex_skip_1_σok n) n 0 []) mixed Try.func45 (by decide) (o := (OSh.plain (.b) [])) h
/-! lex_over: function 44 -/
def lex_over_lex_skip_1_lv : Live := [(1, [0, 1, 2], [1000, 1001, 1002, 1003])]
noncomputable def lex_over_lex_skip_1_σ (n : Nat) : Spec := (inst 45 [.i IntKind.u8] [] (OSh.plain (.b) []) (fun x e => lex_skip_1_v n x.1) Spec.none)
theorem lex_over_lex_skip_1_σok (n : Nat) : SpecOk Try.prog (lex_over_lex_skip_1_σ n) := (inst_ok (fun x e y h => lex_skip_1_c n x.1 y h) (SpecOk.none _))
noncomputable def lex_over_lex_skip_1_Φ (n : Nat) : Orc := with_ Try.prog (lex_over_lex_skip_1_σ n) [] n 0 []
noncomputable def lex_over_lex_skip_1_v (n : Nat) (s0 : ByteArray) (j1 : Int) : Option (Int × Unit) :=
  DM.denFn tm (lex_over_lex_skip_1_Φ n) lex_over_lex_skip_1_lv n Try.f44 false [AV.dv (DV.val (Value.string s0)), AV.dv (DV.val (Value.int IntKind.i64 j1)), AV.fn 45 []] [] (OSh.chk (OSh.plain (.i IntKind.i64) []))
noncomputable def lex_over_lex_skip_1_l1 (n : Nat) (s0 : ByteArray) (j1 : Int) (i0 : Nat) (j3 : Int) : Option (Int × Unit) :=
  DM.loopFn tm (lex_over_lex_skip_1_Φ n) lex_over_lex_skip_1_lv n Try.f44 false [] (OSh.chk (OSh.plain (.i IntKind.i64) [])) 1 [] i0 (St.mk [AV.dv (DV.val (Value.string s0)), AV.dv (DV.val (Value.int IntKind.i64 j3)), AV.fn 45 [], AV.junk, AV.junk, AV.junk, AV.junk, AV.junk, AV.junk, AV.junk, AV.junk, AV.junk, AV.junk, AV.junk, AV.junk, AV.junk, AV.junk, AV.junk, AV.junk, AV.junk, AV.junk] [])
theorem lex_over_lex_skip_1_s1 (n : Nat) (s0 : ByteArray) (j1 : Int) (i0 : Nat) (j3 : Int) : lex_over_lex_skip_1_l1 n s0 j1 (i0 + 1) j3 =
  bif decide (j3 < (↑(ByteArray.size s0) : Int)) then
    if 0 ≤ j3 then
      if j3 < (↑(ByteArray.size s0) : Int) then
        obind (lex_skip_1_v n (bt s0 j3)) fun y4 =>
        bif y4.fst then
          lex_over_lex_skip_1_l1 n s0 j1 i0 (IntKind.wrap IntKind.i64 (j3 + 1))
        else some (j3, ())
      else none
    else none
  else some (j3, ()) := by kernel_rfl
theorem lex_over_lex_skip_1_e (n : Nat) (s0 : ByteArray) (j1 : Int) : lex_over_lex_skip_1_v n s0 j1 =
  lex_over_lex_skip_1_l1 n s0 j1 n j1 := by kernel_rfl
theorem lex_over_lex_skip_1_c (n : Nat) (s0 : ByteArray) (j1 : Int) (y : Int × Unit) (h : lex_over_lex_skip_1_v n s0 j1 = some y) : Contract Try.prog 44 [AV.dv (DV.val (Value.string s0)), AV.dv (DV.val (Value.int IntKind.i64 j1)), AV.fn 45 []] [] (OSh.enc (OSh.plain (.i IntKind.i64) []) y) :=
  auto_okM tm_std (with_ok mixed (by kernel_rfl) (lex_over_lex_skip_1_σok n) n 0 []) (with_pick mixed (by kernel_rfl) (lex_over_lex_skip_1_σok n) n 0 []) mixed Try.func44 (by decide) (o := (OSh.plain (.i IntKind.i64) [])) h
/-! lex_skip: function 26 -/
def lex_skip_lv : Live := [(1, [0, 1], [1000, 1001, 1002, 1003])]
noncomputable def lex_skip_σ (n : Nat) : Spec := (inst 43 [.i IntKind.u8] [] (OSh.plain (.b) []) (fun x e => lex_blank_v n x.1) (inst 44 [.s, .i IntKind.i64, .fn 43 []] [] (OSh.plain (.i IntKind.i64) []) (fun x e => lex_over_lex_blank_v n x.1 x.2.1) (inst 44 [.s, .i IntKind.i64, .fn 45 []] [] (OSh.plain (.i IntKind.i64) []) (fun x e => lex_over_lex_skip_1_v n x.1 x.2.1) Spec.none)))
theorem lex_skip_σok (n : Nat) : SpecOk Try.prog (lex_skip_σ n) := (inst_ok (fun x e y h => lex_blank_c n x.1 y h) (inst_ok (fun x e y h => lex_over_lex_blank_c n x.1 x.2.1 y h) (inst_ok (fun x e y h => lex_over_lex_skip_1_c n x.1 x.2.1 y h) (SpecOk.none _))))
noncomputable def lex_skip_Φ (n : Nat) : Orc := with_ Try.prog (lex_skip_σ n) [] n 0 []
noncomputable def lex_skip_v (n : Nat) (s0 : ByteArray) (j1 : Int) : Option (Int × Unit) :=
  DM.denFn tm (lex_skip_Φ n) lex_skip_lv n Try.f26 false [AV.dv (DV.val (Value.string s0)), AV.dv (DV.val (Value.int IntKind.i64 j1))] [] (OSh.chk (OSh.plain (.i IntKind.i64) []))
noncomputable def lex_skip_l1 (n : Nat) (s0 : ByteArray) (j1 : Int) (i0 : Nat) (j5 : Int) : Option (Int × Unit) :=
  DM.loopFn tm (lex_skip_Φ n) lex_skip_lv n Try.f26 false [] (OSh.chk (OSh.plain (.i IntKind.i64) [])) 1 [] i0 (St.mk [AV.dv (DV.val (Value.string s0)), AV.dv (DV.val (Value.int IntKind.i64 j5)), AV.junk, AV.junk, AV.junk, AV.junk, AV.junk, AV.junk, AV.junk, AV.junk, AV.junk, AV.junk, AV.junk, AV.junk, AV.junk, AV.junk, AV.junk, AV.junk, AV.junk, AV.junk, AV.junk, AV.junk, AV.junk, AV.junk, AV.junk, AV.junk] [])
theorem lex_skip_s1 (n : Nat) (s0 : ByteArray) (j1 : Int) (i0 : Nat) (j5 : Int) : lex_skip_l1 n s0 j1 (i0 + 1) j5 =
  bif decide (j5 < (↑(ByteArray.size s0) : Int)) then
    if 0 ≤ j5 then
      if j5 < (↑(ByteArray.size s0) : Int) then
        obind (lex_blank_v n (bt s0 j5)) fun y6 =>
        bif y6.fst then
          obind (lex_over_lex_blank_v n s0 j5) fun y7 =>
          lex_skip_l1 n s0 j1 i0 y7.fst
        else if 0 ≤ j5 then
          if j5 < (↑(ByteArray.size s0) : Int) then
            bif bt s0 j5 == 37 then
              obind (lex_over_lex_skip_1_v n s0 j5) fun y8 =>
              lex_skip_l1 n s0 j1 i0 y8.fst
            else some (j5, ())
          else none
        else none
      else none
    else none
  else some (j5, ()) := by kernel_rfl
theorem lex_skip_e (n : Nat) (s0 : ByteArray) (j1 : Int) : lex_skip_v n s0 j1 =
  lex_skip_l1 n s0 j1 n j1 := by kernel_rfl
theorem lex_skip_c (n : Nat) (s0 : ByteArray) (j1 : Int) (y : Int × Unit) (h : lex_skip_v n s0 j1 = some y) : Contract Try.prog 26 [AV.dv (DV.val (Value.string s0)), AV.dv (DV.val (Value.int IntKind.i64 j1))] [] (OSh.enc (OSh.plain (.i IntKind.i64) []) y) :=
  auto_okM tm_std (with_ok mixed (by kernel_rfl) (lex_skip_σok n) n 0 []) (with_pick mixed (by kernel_rfl) (lex_skip_σok n) n 0 []) mixed Try.func26 (by decide) (o := (OSh.plain (.i IntKind.i64) [])) h
/-! lex_small: function 47 -/
def lex_small_lv : Live := []
noncomputable def lex_small_σ (n : Nat) : Spec := Spec.none
theorem lex_small_σok (n : Nat) : SpecOk Try.prog (lex_small_σ n) := (SpecOk.none _)
noncomputable def lex_small_Φ (n : Nat) : Orc := with_ Try.prog (lex_small_σ n) [] n 0 []
noncomputable def lex_small_v (n : Nat) (j0 : Int) : Option (Bool × Unit) :=
  DM.denFn tm (lex_small_Φ n) lex_small_lv n Try.f47 false [AV.dv (DV.val (Value.int IntKind.u8 j0))] [] (OSh.chk (OSh.plain (.b) []))
theorem lex_small_e (n : Nat) (j0 : Int) : lex_small_v n j0 =
  bif decide (j0 ≥ 97) then
    some (decide (j0 ≤ 122), ())
  else some (false, ()) := by kernel_rfl
theorem lex_small_c (n : Nat) (j0 : Int) (y : Bool × Unit) (h : lex_small_v n j0 = some y) : Contract Try.prog 47 [AV.dv (DV.val (Value.int IntKind.u8 j0))] [] (OSh.enc (OSh.plain (.b) []) y) :=
  auto_okM tm_std (with_ok mixed (by kernel_rfl) (lex_small_σok n) n 0 []) (with_pick mixed (by kernel_rfl) (lex_small_σok n) n 0 []) mixed Try.func47 (by decide) (o := (OSh.plain (.b) [])) h
/-! lex_great: function 48 -/
def lex_great_lv : Live := []
noncomputable def lex_great_σ (n : Nat) : Spec := Spec.none
theorem lex_great_σok (n : Nat) : SpecOk Try.prog (lex_great_σ n) := (SpecOk.none _)
noncomputable def lex_great_Φ (n : Nat) : Orc := with_ Try.prog (lex_great_σ n) [] n 0 []
noncomputable def lex_great_v (n : Nat) (j0 : Int) : Option (Bool × Unit) :=
  DM.denFn tm (lex_great_Φ n) lex_great_lv n Try.f48 false [AV.dv (DV.val (Value.int IntKind.u8 j0))] [] (OSh.chk (OSh.plain (.b) []))
theorem lex_great_e (n : Nat) (j0 : Int) : lex_great_v n j0 =
  bif decide (j0 ≥ 65) then
    some (decide (j0 ≤ 90), ())
  else some (false, ()) := by kernel_rfl
theorem lex_great_c (n : Nat) (j0 : Int) (y : Bool × Unit) (h : lex_great_v n j0 = some y) : Contract Try.prog 48 [AV.dv (DV.val (Value.int IntKind.u8 j0))] [] (OSh.enc (OSh.plain (.b) []) y) :=
  auto_okM tm_std (with_ok mixed (by kernel_rfl) (lex_great_σok n) n 0 []) (with_pick mixed (by kernel_rfl) (lex_great_σok n) n 0 []) mixed Try.func48 (by decide) (o := (OSh.plain (.b) [])) h
/-! lex_digit: function 49 -/
def lex_digit_lv : Live := []
noncomputable def lex_digit_σ (n : Nat) : Spec := Spec.none
theorem lex_digit_σok (n : Nat) : SpecOk Try.prog (lex_digit_σ n) := (SpecOk.none _)
noncomputable def lex_digit_Φ (n : Nat) : Orc := with_ Try.prog (lex_digit_σ n) [] n 0 []
noncomputable def lex_digit_v (n : Nat) (j0 : Int) : Option (Bool × Unit) :=
  DM.denFn tm (lex_digit_Φ n) lex_digit_lv n Try.f49 false [AV.dv (DV.val (Value.int IntKind.u8 j0))] [] (OSh.chk (OSh.plain (.b) []))
theorem lex_digit_e (n : Nat) (j0 : Int) : lex_digit_v n j0 =
  bif decide (j0 ≥ 48) then
    some (decide (j0 ≤ 57), ())
  else some (false, ()) := by kernel_rfl
theorem lex_digit_c (n : Nat) (j0 : Int) (y : Bool × Unit) (h : lex_digit_v n j0 = some y) : Contract Try.prog 49 [AV.dv (DV.val (Value.int IntKind.u8 j0))] [] (OSh.enc (OSh.plain (.b) []) y) :=
  auto_okM tm_std (with_ok mixed (by kernel_rfl) (lex_digit_σok n) n 0 []) (with_pick mixed (by kernel_rfl) (lex_digit_σok n) n 0 []) mixed Try.func49 (by decide) (o := (OSh.plain (.b) [])) h
/-! lex_one_1: function 46 -/
def lex_one_1_lv : Live := []
noncomputable def lex_one_1_σ (n : Nat) : Spec := (inst 47 [.i IntKind.u8] [] (OSh.plain (.b) []) (fun x e => lex_small_v n x.1) (inst 48 [.i IntKind.u8] [] (OSh.plain (.b) []) (fun x e => lex_great_v n x.1) (inst 49 [.i IntKind.u8] [] (OSh.plain (.b) []) (fun x e => lex_digit_v n x.1) Spec.none)))
theorem lex_one_1_σok (n : Nat) : SpecOk Try.prog (lex_one_1_σ n) := (inst_ok (fun x e y h => lex_small_c n x.1 y h) (inst_ok (fun x e y h => lex_great_c n x.1 y h) (inst_ok (fun x e y h => lex_digit_c n x.1 y h) (SpecOk.none _))))
noncomputable def lex_one_1_Φ (n : Nat) : Orc := with_ Try.prog (lex_one_1_σ n) [] n 0 []
noncomputable def lex_one_1_v (n : Nat) (j0 : Int) : Option (Bool × Unit) :=
  DM.denFn tm (lex_one_1_Φ n) lex_one_1_lv n Try.f46 false [AV.dv (DV.val (Value.int IntKind.u8 j0))] [] (OSh.chk (OSh.plain (.b) []))
theorem lex_one_1_e (n : Nat) (j0 : Int) : lex_one_1_v n j0 =
  obind (lex_small_v n j0) fun y1 =>
  bif y1.fst then
    some (true, ())
  else obind (lex_great_v n j0) fun y2 =>
  bif y2.fst then
    some (true, ())
  else obind (lex_digit_v n j0) fun y3 =>
  bif y3.fst then
    some (true, ())
  else some (j0 == 95, ()) := by kernel_rfl
theorem lex_one_1_c (n : Nat) (j0 : Int) (y : Bool × Unit) (h : lex_one_1_v n j0 = some y) : Contract Try.prog 46 [AV.dv (DV.val (Value.int IntKind.u8 j0))] [] (OSh.enc (OSh.plain (.b) []) y) :=
  auto_okM tm_std (with_ok mixed (by kernel_rfl) (lex_one_1_σok n) n 0 []) (with_pick mixed (by kernel_rfl) (lex_one_1_σok n) n 0 []) mixed Try.func46 (by decide) (o := (OSh.plain (.b) [])) h
/-! lex_over: function 44 -/
def lex_over_lex_one_1_lv : Live := [(1, [0, 1, 2], [1000, 1001, 1002, 1003])]
noncomputable def lex_over_lex_one_1_σ (n : Nat) : Spec := (inst 46 [.i IntKind.u8] [] (OSh.plain (.b) []) (fun x e => lex_one_1_v n x.1) Spec.none)
theorem lex_over_lex_one_1_σok (n : Nat) : SpecOk Try.prog (lex_over_lex_one_1_σ n) := (inst_ok (fun x e y h => lex_one_1_c n x.1 y h) (SpecOk.none _))
noncomputable def lex_over_lex_one_1_Φ (n : Nat) : Orc := with_ Try.prog (lex_over_lex_one_1_σ n) [] n 0 []
noncomputable def lex_over_lex_one_1_v (n : Nat) (s0 : ByteArray) (j1 : Int) : Option (Int × Unit) :=
  DM.denFn tm (lex_over_lex_one_1_Φ n) lex_over_lex_one_1_lv n Try.f44 false [AV.dv (DV.val (Value.string s0)), AV.dv (DV.val (Value.int IntKind.i64 j1)), AV.fn 46 []] [] (OSh.chk (OSh.plain (.i IntKind.i64) []))
noncomputable def lex_over_lex_one_1_l1 (n : Nat) (s0 : ByteArray) (j1 : Int) (i0 : Nat) (j3 : Int) : Option (Int × Unit) :=
  DM.loopFn tm (lex_over_lex_one_1_Φ n) lex_over_lex_one_1_lv n Try.f44 false [] (OSh.chk (OSh.plain (.i IntKind.i64) [])) 1 [] i0 (St.mk [AV.dv (DV.val (Value.string s0)), AV.dv (DV.val (Value.int IntKind.i64 j3)), AV.fn 46 [], AV.junk, AV.junk, AV.junk, AV.junk, AV.junk, AV.junk, AV.junk, AV.junk, AV.junk, AV.junk, AV.junk, AV.junk, AV.junk, AV.junk, AV.junk, AV.junk, AV.junk, AV.junk] [])
theorem lex_over_lex_one_1_s1 (n : Nat) (s0 : ByteArray) (j1 : Int) (i0 : Nat) (j3 : Int) : lex_over_lex_one_1_l1 n s0 j1 (i0 + 1) j3 =
  bif decide (j3 < (↑(ByteArray.size s0) : Int)) then
    if 0 ≤ j3 then
      if j3 < (↑(ByteArray.size s0) : Int) then
        obind (lex_one_1_v n (bt s0 j3)) fun y4 =>
        bif y4.fst then
          lex_over_lex_one_1_l1 n s0 j1 i0 (IntKind.wrap IntKind.i64 (j3 + 1))
        else some (j3, ())
      else none
    else none
  else some (j3, ()) := by kernel_rfl
theorem lex_over_lex_one_1_e (n : Nat) (s0 : ByteArray) (j1 : Int) : lex_over_lex_one_1_v n s0 j1 =
  lex_over_lex_one_1_l1 n s0 j1 n j1 := by kernel_rfl
theorem lex_over_lex_one_1_c (n : Nat) (s0 : ByteArray) (j1 : Int) (y : Int × Unit) (h : lex_over_lex_one_1_v n s0 j1 = some y) : Contract Try.prog 44 [AV.dv (DV.val (Value.string s0)), AV.dv (DV.val (Value.int IntKind.i64 j1)), AV.fn 46 []] [] (OSh.enc (OSh.plain (.i IntKind.i64) []) y) :=
  auto_okM tm_std (with_ok mixed (by kernel_rfl) (lex_over_lex_one_1_σok n) n 0 []) (with_pick mixed (by kernel_rfl) (lex_over_lex_one_1_σok n) n 0 []) mixed Try.func44 (by decide) (o := (OSh.plain (.i IntKind.i64) [])) h
/-! lex_over: function 44 -/
def lex_over_lex_digit_lv : Live := [(1, [0, 1, 2], [1000, 1001, 1002, 1003])]
noncomputable def lex_over_lex_digit_σ (n : Nat) : Spec := (inst 49 [.i IntKind.u8] [] (OSh.plain (.b) []) (fun x e => lex_digit_v n x.1) Spec.none)
theorem lex_over_lex_digit_σok (n : Nat) : SpecOk Try.prog (lex_over_lex_digit_σ n) := (inst_ok (fun x e y h => lex_digit_c n x.1 y h) (SpecOk.none _))
noncomputable def lex_over_lex_digit_Φ (n : Nat) : Orc := with_ Try.prog (lex_over_lex_digit_σ n) [] n 0 []
noncomputable def lex_over_lex_digit_v (n : Nat) (s0 : ByteArray) (j1 : Int) : Option (Int × Unit) :=
  DM.denFn tm (lex_over_lex_digit_Φ n) lex_over_lex_digit_lv n Try.f44 false [AV.dv (DV.val (Value.string s0)), AV.dv (DV.val (Value.int IntKind.i64 j1)), AV.fn 49 []] [] (OSh.chk (OSh.plain (.i IntKind.i64) []))
noncomputable def lex_over_lex_digit_l1 (n : Nat) (s0 : ByteArray) (j1 : Int) (i0 : Nat) (j3 : Int) : Option (Int × Unit) :=
  DM.loopFn tm (lex_over_lex_digit_Φ n) lex_over_lex_digit_lv n Try.f44 false [] (OSh.chk (OSh.plain (.i IntKind.i64) [])) 1 [] i0 (St.mk [AV.dv (DV.val (Value.string s0)), AV.dv (DV.val (Value.int IntKind.i64 j3)), AV.fn 49 [], AV.junk, AV.junk, AV.junk, AV.junk, AV.junk, AV.junk, AV.junk, AV.junk, AV.junk, AV.junk, AV.junk, AV.junk, AV.junk, AV.junk, AV.junk, AV.junk, AV.junk, AV.junk] [])
theorem lex_over_lex_digit_s1 (n : Nat) (s0 : ByteArray) (j1 : Int) (i0 : Nat) (j3 : Int) : lex_over_lex_digit_l1 n s0 j1 (i0 + 1) j3 =
  bif decide (j3 < (↑(ByteArray.size s0) : Int)) then
    if 0 ≤ j3 then
      if j3 < (↑(ByteArray.size s0) : Int) then
        obind (lex_digit_v n (bt s0 j3)) fun y4 =>
        bif y4.fst then
          lex_over_lex_digit_l1 n s0 j1 i0 (IntKind.wrap IntKind.i64 (j3 + 1))
        else some (j3, ())
      else none
    else none
  else some (j3, ()) := by kernel_rfl
theorem lex_over_lex_digit_e (n : Nat) (s0 : ByteArray) (j1 : Int) : lex_over_lex_digit_v n s0 j1 =
  lex_over_lex_digit_l1 n s0 j1 n j1 := by kernel_rfl
theorem lex_over_lex_digit_c (n : Nat) (s0 : ByteArray) (j1 : Int) (y : Int × Unit) (h : lex_over_lex_digit_v n s0 j1 = some y) : Contract Try.prog 44 [AV.dv (DV.val (Value.string s0)), AV.dv (DV.val (Value.int IntKind.i64 j1)), AV.fn 49 []] [] (OSh.enc (OSh.plain (.i IntKind.i64) []) y) :=
  auto_okM tm_std (with_ok mixed (by kernel_rfl) (lex_over_lex_digit_σok n) n 0 []) (with_pick mixed (by kernel_rfl) (lex_over_lex_digit_σok n) n 0 []) mixed Try.func44 (by decide) (o := (OSh.plain (.i IntKind.i64) [])) h
/-! lex_number: function 50 -/
def lex_number_lv : Live := [(8, [0, 4, 5, 30, 31], [1000, 1001, 1002, 1003])]
noncomputable def lex_number_σ (n : Nat) : Spec := Spec.none
theorem lex_number_σok (n : Nat) : SpecOk Try.prog (lex_number_σ n) := (SpecOk.none _)
noncomputable def lex_number_Φ (n : Nat) : Orc := with_ Try.prog (lex_number_σ n) [] n 0 []
noncomputable def lex_number_v (n : Nat) (s0 : ByteArray) : Option ((Int × Bool × Unit) × Unit) :=
  DM.denFn tm (lex_number_Φ n) lex_number_lv n Try.f50 false [AV.dv (DV.val (Value.string s0))] [] (OSh.chk (OSh.plain (.tup [.i IntKind.i64, .b]) []))
noncomputable def lex_number_l8 (n : Nat) (s0 : ByteArray) (i0 : Nat) (s1 : ByteArray) (j2 : Int) (j3 : Int) (j4 : Int) : Option ((Int × Bool × Unit) × Unit) :=
  DM.loopFn tm (lex_number_Φ n) lex_number_lv n Try.f50 false [] (OSh.chk (OSh.plain (.tup [.i IntKind.i64, .b]) [])) 8 [] i0 (St.mk [AV.dv (DV.val (Value.string s1)), AV.junk, AV.junk, AV.junk, AV.dv (DV.val (Value.bool (bt s0 0 == 45))), AV.dv (DV.val (Value.int IntKind.i64 j3)), AV.junk, AV.junk, AV.junk, AV.junk, AV.junk, AV.junk, AV.junk, AV.junk, AV.junk, AV.junk, AV.junk, AV.junk, AV.junk, AV.junk, AV.junk, AV.junk, AV.junk, AV.junk, AV.junk, AV.junk, AV.junk, AV.junk, AV.junk, AV.junk, AV.dv (DV.val (Value.int IntKind.i64 j2)), AV.dv (DV.val (Value.int IntKind.i64 j4)), AV.junk, AV.junk, AV.junk, AV.junk, AV.junk, AV.junk, AV.junk, AV.junk, AV.junk, AV.junk, AV.junk, AV.junk, AV.junk, AV.junk, AV.junk, AV.junk, AV.junk, AV.junk, AV.junk, AV.junk, AV.junk, AV.junk, AV.junk] [])
theorem lex_number_s8 (n : Nat) (s0 : ByteArray) (i0 : Nat) (s1 : ByteArray) (j2 : Int) (j3 : Int) (j4 : Int) : lex_number_l8 n s0 (i0 + 1) s1 j2 j3 j4 =
  bif decide (j4 < j2) then
    if 0 ≤ j4 then
      if j4 < (↑(ByteArray.size s1) : Int) then
        bif decide (j3 < IntKind.wrap IntKind.i64 (Int.tdiv (IntKind.wrap IntKind.i64 (-9223372036854775808 + IntKind.wrap IntKind.i64 (IntKind.wrap IntKind.u8 (bt s1 j4 - 48)))) 10)) then
          some ((0, (false, ())), ())
        else lex_number_l8 n s0 i0 s1 j2 (IntKind.wrap IntKind.i64 (IntKind.wrap IntKind.i64 (10 * j3) - IntKind.wrap IntKind.i64 (IntKind.wrap IntKind.u8 (bt s1 j4 - 48)))) (IntKind.wrap IntKind.i64 (j4 + 1))
      else none
    else none
  else bif bt s0 0 == 45 then
    some ((j3, (true, ())), ())
  else some ((IntKind.wrap IntKind.i64 (0 - j3), (j3 != -9223372036854775808, ())), ()) := by kernel_rfl
theorem lex_number_e (n : Nat) (s0 : ByteArray) : lex_number_v n s0 =
  if 0 < (↑(ByteArray.size s0) : Int) then
    bif bt s0 0 == 45 then
      if 1 ≤ (↑(ByteArray.size s0) : Int) then
        if (↑(ByteArray.size s0) : Int) ≤ (↑(ByteArray.size s0) : Int) then
          bif ByteArray.extract s0 1 (Int.toNat (↑(ByteArray.size s0) : Int)) == ByteArray.mk #[] then
            some ((0, (false, ())), ())
          else if 0 < (↑(ByteArray.size (ByteArray.extract s0 1 (Int.toNat (↑(ByteArray.size s0) : Int)))) : Int) then
            bif bt (ByteArray.extract s0 1 (Int.toNat (↑(ByteArray.size s0) : Int))) 0 == 48 then
              bif bt s0 0 == 45 then
                some ((0, (false, ())), ())
              else bif decide ((↑(ByteArray.size (ByteArray.extract s0 1 (Int.toNat (↑(ByteArray.size s0) : Int)))) : Int) > 1) then
                some ((0, (false, ())), ())
              else lex_number_l8 n s0 n (ByteArray.extract s0 1 (Int.toNat (↑(ByteArray.size s0) : Int))) ((↑(ByteArray.size (ByteArray.extract s0 1 (Int.toNat (↑(ByteArray.size s0) : Int)))) : Int)) 0 0
            else lex_number_l8 n s0 n (ByteArray.extract s0 1 (Int.toNat (↑(ByteArray.size s0) : Int))) ((↑(ByteArray.size (ByteArray.extract s0 1 (Int.toNat (↑(ByteArray.size s0) : Int)))) : Int)) 0 0
          else none
        else none
      else none
    else bif s0 == ByteArray.mk #[] then
      some ((0, (false, ())), ())
    else if 0 < (↑(ByteArray.size s0) : Int) then
      bif bt s0 0 == 48 then
        bif bt s0 0 == 45 then
          some ((0, (false, ())), ())
        else bif decide ((↑(ByteArray.size s0) : Int) > 1) then
          some ((0, (false, ())), ())
        else lex_number_l8 n s0 n s0 ((↑(ByteArray.size s0) : Int)) 0 0
      else lex_number_l8 n s0 n s0 ((↑(ByteArray.size s0) : Int)) 0 0
    else none
  else none := by kernel_rfl
theorem lex_number_c (n : Nat) (s0 : ByteArray) (y : (Int × Bool × Unit) × Unit) (h : lex_number_v n s0 = some y) : Contract Try.prog 50 [AV.dv (DV.val (Value.string s0))] [] (OSh.enc (OSh.plain (.tup [.i IntKind.i64, .b]) []) y) :=
  auto_okM tm_std (with_ok mixed (by kernel_rfl) (lex_number_σok n) n 0 []) (with_pick mixed (by kernel_rfl) (lex_number_σok n) n 0 []) mixed Try.func50 (by decide) (o := (OSh.plain (.tup [.i IntKind.i64, .b]) [])) h
/-! lex_quoted_1: function 71 -/
def lex_quoted_1_lv : Live := []
noncomputable def lex_quoted_1_σ (n : Nat) : Spec := Spec.none
theorem lex_quoted_1_σok (n : Nat) : SpecOk Try.prog (lex_quoted_1_σ n) := (SpecOk.none _)
noncomputable def lex_quoted_1_Φ (n : Nat) : Orc := with_ Try.prog (lex_quoted_1_σ n) [] n 0 []
noncomputable def lex_quoted_1_v (n : Nat) (j0 : Int) : Option (Bool × Unit) :=
  DM.denFn tm (lex_quoted_1_Φ n) lex_quoted_1_lv n Try.f71 false [AV.dv (DV.val (Value.int IntKind.u8 j0))] [] (OSh.chk (OSh.plain (.b) []))
theorem lex_quoted_1_e (n : Nat) (j0 : Int) : lex_quoted_1_v n j0 =
  bif decide (j0 ≥ 32) then
    bif decide (j0 ≤ 126) then
      bif j0 != 34 then
        some (j0 != 92, ())
      else some (false, ())
    else some (false, ())
  else some (false, ()) := by kernel_rfl
theorem lex_quoted_1_c (n : Nat) (j0 : Int) (y : Bool × Unit) (h : lex_quoted_1_v n j0 = some y) : Contract Try.prog 71 [AV.dv (DV.val (Value.int IntKind.u8 j0))] [] (OSh.enc (OSh.plain (.b) []) y) :=
  auto_okM tm_std (with_ok mixed (by kernel_rfl) (lex_quoted_1_σok n) n 0 []) (with_pick mixed (by kernel_rfl) (lex_quoted_1_σok n) n 0 []) mixed Try.func71 (by decide) (o := (OSh.plain (.b) [])) h
/-! lex_over: function 44 -/
def lex_over_lex_quoted_1_lv : Live := [(1, [0, 1, 2], [1000, 1001, 1002, 1003])]
noncomputable def lex_over_lex_quoted_1_σ (n : Nat) : Spec := (inst 71 [.i IntKind.u8] [] (OSh.plain (.b) []) (fun x e => lex_quoted_1_v n x.1) Spec.none)
theorem lex_over_lex_quoted_1_σok (n : Nat) : SpecOk Try.prog (lex_over_lex_quoted_1_σ n) := (inst_ok (fun x e y h => lex_quoted_1_c n x.1 y h) (SpecOk.none _))
noncomputable def lex_over_lex_quoted_1_Φ (n : Nat) : Orc := with_ Try.prog (lex_over_lex_quoted_1_σ n) [] n 0 []
noncomputable def lex_over_lex_quoted_1_v (n : Nat) (s0 : ByteArray) (j1 : Int) : Option (Int × Unit) :=
  DM.denFn tm (lex_over_lex_quoted_1_Φ n) lex_over_lex_quoted_1_lv n Try.f44 false [AV.dv (DV.val (Value.string s0)), AV.dv (DV.val (Value.int IntKind.i64 j1)), AV.fn 71 []] [] (OSh.chk (OSh.plain (.i IntKind.i64) []))
noncomputable def lex_over_lex_quoted_1_l1 (n : Nat) (s0 : ByteArray) (j1 : Int) (i0 : Nat) (j3 : Int) : Option (Int × Unit) :=
  DM.loopFn tm (lex_over_lex_quoted_1_Φ n) lex_over_lex_quoted_1_lv n Try.f44 false [] (OSh.chk (OSh.plain (.i IntKind.i64) [])) 1 [] i0 (St.mk [AV.dv (DV.val (Value.string s0)), AV.dv (DV.val (Value.int IntKind.i64 j3)), AV.fn 71 [], AV.junk, AV.junk, AV.junk, AV.junk, AV.junk, AV.junk, AV.junk, AV.junk, AV.junk, AV.junk, AV.junk, AV.junk, AV.junk, AV.junk, AV.junk, AV.junk, AV.junk, AV.junk] [])
theorem lex_over_lex_quoted_1_s1 (n : Nat) (s0 : ByteArray) (j1 : Int) (i0 : Nat) (j3 : Int) : lex_over_lex_quoted_1_l1 n s0 j1 (i0 + 1) j3 =
  bif decide (j3 < (↑(ByteArray.size s0) : Int)) then
    if 0 ≤ j3 then
      if j3 < (↑(ByteArray.size s0) : Int) then
        obind (lex_quoted_1_v n (bt s0 j3)) fun y4 =>
        bif y4.fst then
          lex_over_lex_quoted_1_l1 n s0 j1 i0 (IntKind.wrap IntKind.i64 (j3 + 1))
        else some (j3, ())
      else none
    else none
  else some (j3, ()) := by kernel_rfl
theorem lex_over_lex_quoted_1_e (n : Nat) (s0 : ByteArray) (j1 : Int) : lex_over_lex_quoted_1_v n s0 j1 =
  lex_over_lex_quoted_1_l1 n s0 j1 n j1 := by kernel_rfl
theorem lex_over_lex_quoted_1_c (n : Nat) (s0 : ByteArray) (j1 : Int) (y : Int × Unit) (h : lex_over_lex_quoted_1_v n s0 j1 = some y) : Contract Try.prog 44 [AV.dv (DV.val (Value.string s0)), AV.dv (DV.val (Value.int IntKind.i64 j1)), AV.fn 71 []] [] (OSh.enc (OSh.plain (.i IntKind.i64) []) y) :=
  auto_okM tm_std (with_ok mixed (by kernel_rfl) (lex_over_lex_quoted_1_σok n) n 0 []) (with_pick mixed (by kernel_rfl) (lex_over_lex_quoted_1_σok n) n 0 []) mixed Try.func44 (by decide) (o := (OSh.plain (.i IntKind.i64) [])) h
/-! lex_quoted: function 51 -/
def lex_quoted_lv : Live := []
noncomputable def lex_quoted_σ (n : Nat) : Spec := (inst 44 [.s, .i IntKind.i64, .fn 71 []] [] (OSh.plain (.i IntKind.i64) []) (fun x e => lex_over_lex_quoted_1_v n x.1 x.2.1) Spec.none)
theorem lex_quoted_σok (n : Nat) : SpecOk Try.prog (lex_quoted_σ n) := (inst_ok (fun x e y h => lex_over_lex_quoted_1_c n x.1 x.2.1 y h) (SpecOk.none _))
noncomputable def lex_quoted_Φ (n : Nat) : Orc := with_ Try.prog (lex_quoted_σ n) [] n 0 []
noncomputable def lex_quoted_v (n : Nat) (s0 : ByteArray) (j1 : Int) : Option ((ByteArray × Int × Bool × Unit) × Unit) :=
  DM.denFn tm (lex_quoted_Φ n) lex_quoted_lv n Try.f51 false [AV.dv (DV.val (Value.string s0)), AV.dv (DV.val (Value.int IntKind.i64 j1))] [] (OSh.chk (OSh.plain (.tup [.s, .i IntKind.i64, .b]) []))
theorem lex_quoted_e (n : Nat) (s0 : ByteArray) (j1 : Int) : lex_quoted_v n s0 j1 =
  obind (lex_over_lex_quoted_1_v n s0 (IntKind.wrap IntKind.i64 (j1 + 1))) fun y2 =>
  bif decide (y2.fst ≥ (↑(ByteArray.size s0) : Int)) then
    some ((ByteArray.mk #[], (0, (false, ()))), ())
  else if 0 ≤ y2.fst then
    if y2.fst < (↑(ByteArray.size s0) : Int) then
      bif bt s0 y2.fst != 34 then
        some ((ByteArray.mk #[], (0, (false, ()))), ())
      else if 0 ≤ IntKind.wrap IntKind.i64 (j1 + 1) then
        if IntKind.wrap IntKind.i64 (j1 + 1) ≤ y2.fst then
          if y2.fst ≤ (↑(ByteArray.size s0) : Int) then
            some ((ByteArray.extract s0 (Int.toNat (IntKind.wrap IntKind.i64 (j1 + 1))) (Int.toNat y2.fst), (IntKind.wrap IntKind.i64 (y2.fst + 1), (true, ()))), ())
          else none
        else none
      else none
    else none
  else none := by kernel_rfl
theorem lex_quoted_c (n : Nat) (s0 : ByteArray) (j1 : Int) (y : (ByteArray × Int × Bool × Unit) × Unit) (h : lex_quoted_v n s0 j1 = some y) : Contract Try.prog 51 [AV.dv (DV.val (Value.string s0)), AV.dv (DV.val (Value.int IntKind.i64 j1))] [] (OSh.enc (OSh.plain (.tup [.s, .i IntKind.i64, .b]) []) y) :=
  auto_okM tm_std (with_ok mixed (by kernel_rfl) (lex_quoted_σok n) n 0 []) (with_pick mixed (by kernel_rfl) (lex_quoted_σok n) n 0 []) mixed Try.func51 (by decide) (o := (OSh.plain (.tup [.s, .i IntKind.i64, .b]) [])) h
/-! lex_one: function 27 -/
def lex_one_lv : Live := []
noncomputable def lex_one_σ (n : Nat) : Spec := (inst 47 [.i IntKind.u8] [] (OSh.plain (.b) []) (fun x e => lex_small_v n x.1) (inst 44 [.s, .i IntKind.i64, .fn 46 []] [] (OSh.plain (.i IntKind.i64) []) (fun x e => lex_over_lex_one_1_v n x.1 x.2.1) (inst 48 [.i IntKind.u8] [] (OSh.plain (.b) []) (fun x e => lex_great_v n x.1) (inst 49 [.i IntKind.u8] [] (OSh.plain (.b) []) (fun x e => lex_digit_v n x.1) (inst 44 [.s, .i IntKind.i64, .fn 49 []] [] (OSh.plain (.i IntKind.i64) []) (fun x e => lex_over_lex_digit_v n x.1 x.2.1) (inst 50 [.s] [] (OSh.plain (.tup [.i IntKind.i64, .b]) []) (fun x e => lex_number_v n x.1) (inst 51 [.s, .i IntKind.i64] [] (OSh.plain (.tup [.s, .i IntKind.i64, .b]) []) (fun x e => lex_quoted_v n x.1 x.2.1) Spec.none)))))))
theorem lex_one_σok (n : Nat) : SpecOk Try.prog (lex_one_σ n) := (inst_ok (fun x e y h => lex_small_c n x.1 y h) (inst_ok (fun x e y h => lex_over_lex_one_1_c n x.1 x.2.1 y h) (inst_ok (fun x e y h => lex_great_c n x.1 y h) (inst_ok (fun x e y h => lex_digit_c n x.1 y h) (inst_ok (fun x e y h => lex_over_lex_digit_c n x.1 x.2.1 y h) (inst_ok (fun x e y h => lex_number_c n x.1 y h) (inst_ok (fun x e y h => lex_quoted_c n x.1 x.2.1 y h) (SpecOk.none _))))))))
noncomputable def lex_one_Φ (n : Nat) : Orc := with_ Try.prog (lex_one_σ n) [] n 0 []
noncomputable def lex_one_v (n : Nat) (s0 : ByteArray) (j1 : Int) : Option (((Int × ByteArray × Int × Int × Unit) × Int × Int × Unit) × Unit) :=
  DM.denFn tm (lex_one_Φ n) lex_one_lv n Try.f27 false [AV.dv (DV.val (Value.string s0)), AV.dv (DV.val (Value.int IntKind.i64 j1))] [] (OSh.chk (OSh.plain (.tup [.agg [.i IntKind.i64, .s, .i IntKind.i64, .i IntKind.i64], .i IntKind.i64, .i IntKind.i64]) []))
theorem lex_one_e (n : Nat) (s0 : ByteArray) (j1 : Int) : lex_one_v n s0 j1 =
  if 0 ≤ j1 then
    if j1 < (↑(ByteArray.size s0) : Int) then
      obind (lex_small_v n (bt s0 j1)) fun y2 =>
      bif y2.fst then
        obind (lex_over_lex_one_1_v n s0 j1) fun y3 =>
        if 0 ≤ j1 then
          if j1 ≤ y3.fst then
            if y3.fst ≤ (↑(ByteArray.size s0) : Int) then
              bif decide ((↑(ByteArray.size (ByteArray.extract s0 (Int.toNat j1) (Int.toNat y3.fst))) : Int) > 32) then
                some (((1, (ByteArray.extract s0 (Int.toNat j1) (Int.toNat y3.fst), (0, (j1, ())))), (0, (71, ()))), ())
              else some (((1, (ByteArray.extract s0 (Int.toNat j1) (Int.toNat y3.fst), (0, (j1, ())))), (y3.fst, (0, ()))), ())
            else none
          else none
        else none
      else obind (lex_great_v n (bt s0 j1)) fun y4 =>
      bif y4.fst then
        obind (lex_over_lex_one_1_v n s0 j1) fun y5 =>
        if 0 ≤ j1 then
          if j1 ≤ y5.fst then
            if y5.fst ≤ (↑(ByteArray.size s0) : Int) then
              bif decide ((↑(ByteArray.size (ByteArray.extract s0 (Int.toNat j1) (Int.toNat y5.fst))) : Int) > 32) then
                some (((2, (ByteArray.extract s0 (Int.toNat j1) (Int.toNat y5.fst), (0, (j1, ())))), (0, (71, ()))), ())
              else some (((2, (ByteArray.extract s0 (Int.toNat j1) (Int.toNat y5.fst), (0, (j1, ())))), (y5.fst, (0, ()))), ())
            else none
          else none
        else none
      else obind (lex_digit_v n (bt s0 j1)) fun y6 =>
      bif y6.fst then
        obind (lex_over_lex_digit_v n s0 (IntKind.wrap IntKind.i64 (j1 + 1))) fun y7 =>
        if 0 ≤ j1 then
          if j1 ≤ y7.fst then
            if y7.fst ≤ (↑(ByteArray.size s0) : Int) then
              obind (lex_number_v n (ByteArray.extract s0 (Int.toNat j1) (Int.toNat y7.fst))) fun y8 =>
              bif !y8.fst.snd.fst then
                some (((0, (ByteArray.mk #[], (0, (j1, ())))), (0, (70, ()))), ())
              else some (((3, (ByteArray.mk #[], (y8.fst.fst, (j1, ())))), (y7.fst, (0, ()))), ())
            else none
          else none
        else none
      else bif bt s0 j1 == 45 then
        obind (lex_over_lex_digit_v n s0 (IntKind.wrap IntKind.i64 (j1 + 1))) fun y9 =>
        if 0 ≤ j1 then
          if j1 ≤ y9.fst then
            if y9.fst ≤ (↑(ByteArray.size s0) : Int) then
              obind (lex_number_v n (ByteArray.extract s0 (Int.toNat j1) (Int.toNat y9.fst))) fun y10 =>
              bif !y10.fst.snd.fst then
                some (((0, (ByteArray.mk #[], (0, (j1, ())))), (0, (70, ()))), ())
              else some (((3, (ByteArray.mk #[], (y10.fst.fst, (j1, ())))), (y9.fst, (0, ()))), ())
            else none
          else none
        else none
      else bif bt s0 j1 == 34 then
        obind (lex_quoted_v n s0 j1) fun y11 =>
        bif !y11.fst.snd.snd.fst then
          some (((0, (ByteArray.mk #[], (0, (j1, ())))), (0, (70, ()))), ())
        else bif decide ((↑(ByteArray.size y11.fst.fst) : Int) > 32) then
          some (((4, (y11.fst.fst, (0, (j1, ())))), (0, (71, ()))), ())
        else some (((4, (y11.fst.fst, (0, (j1, ())))), (y11.fst.snd.fst, (0, ()))), ())
      else bif bt s0 j1 == 58 then
        bif decide (IntKind.wrap IntKind.i64 (j1 + 1) < (↑(ByteArray.size s0) : Int)) then
          if 0 ≤ IntKind.wrap IntKind.i64 (j1 + 1) then
            if IntKind.wrap IntKind.i64 (j1 + 1) < (↑(ByteArray.size s0) : Int) then
              bif bt s0 (IntKind.wrap IntKind.i64 (j1 + 1)) == 45 then
                if 0 ≤ j1 then
                  if j1 ≤ IntKind.wrap IntKind.i64 (IntKind.wrap IntKind.i64 (j1 + 1) + 1) then
                    if IntKind.wrap IntKind.i64 (IntKind.wrap IntKind.i64 (j1 + 1) + 1) ≤ (↑(ByteArray.size s0) : Int) then
                      bif decide ((↑(ByteArray.size (ByteArray.extract s0 (Int.toNat j1) (Int.toNat (IntKind.wrap IntKind.i64 (IntKind.wrap IntKind.i64 (j1 + 1) + 1))))) : Int) > 32) then
                        some (((5, (ByteArray.extract s0 (Int.toNat j1) (Int.toNat (IntKind.wrap IntKind.i64 (IntKind.wrap IntKind.i64 (j1 + 1) + 1))), (0, (j1, ())))), (0, (71, ()))), ())
                      else some (((5, (ByteArray.extract s0 (Int.toNat j1) (Int.toNat (IntKind.wrap IntKind.i64 (IntKind.wrap IntKind.i64 (j1 + 1) + 1))), (0, (j1, ())))), (IntKind.wrap IntKind.i64 (IntKind.wrap IntKind.i64 (j1 + 1) + 1), (0, ()))), ())
                    else none
                  else none
                else none
              else bif bt s0 j1 == 40 then
                if 0 ≤ j1 then
                  if j1 ≤ IntKind.wrap IntKind.i64 (j1 + 1) then
                    if IntKind.wrap IntKind.i64 (j1 + 1) ≤ (↑(ByteArray.size s0) : Int) then
                      bif decide ((↑(ByteArray.size (ByteArray.extract s0 (Int.toNat j1) (Int.toNat (IntKind.wrap IntKind.i64 (j1 + 1))))) : Int) > 32) then
                        some (((5, (ByteArray.extract s0 (Int.toNat j1) (Int.toNat (IntKind.wrap IntKind.i64 (j1 + 1))), (0, (j1, ())))), (0, (71, ()))), ())
                      else some (((5, (ByteArray.extract s0 (Int.toNat j1) (Int.toNat (IntKind.wrap IntKind.i64 (j1 + 1))), (0, (j1, ())))), (IntKind.wrap IntKind.i64 (j1 + 1), (0, ()))), ())
                    else none
                  else none
                else none
              else bif bt s0 j1 == 41 then
                if 0 ≤ j1 then
                  if j1 ≤ IntKind.wrap IntKind.i64 (j1 + 1) then
                    if IntKind.wrap IntKind.i64 (j1 + 1) ≤ (↑(ByteArray.size s0) : Int) then
                      bif decide ((↑(ByteArray.size (ByteArray.extract s0 (Int.toNat j1) (Int.toNat (IntKind.wrap IntKind.i64 (j1 + 1))))) : Int) > 32) then
                        some (((5, (ByteArray.extract s0 (Int.toNat j1) (Int.toNat (IntKind.wrap IntKind.i64 (j1 + 1))), (0, (j1, ())))), (0, (71, ()))), ())
                      else some (((5, (ByteArray.extract s0 (Int.toNat j1) (Int.toNat (IntKind.wrap IntKind.i64 (j1 + 1))), (0, (j1, ())))), (IntKind.wrap IntKind.i64 (j1 + 1), (0, ()))), ())
                    else none
                  else none
                else none
              else bif bt s0 j1 == 44 then
                if 0 ≤ j1 then
                  if j1 ≤ IntKind.wrap IntKind.i64 (j1 + 1) then
                    if IntKind.wrap IntKind.i64 (j1 + 1) ≤ (↑(ByteArray.size s0) : Int) then
                      bif decide ((↑(ByteArray.size (ByteArray.extract s0 (Int.toNat j1) (Int.toNat (IntKind.wrap IntKind.i64 (j1 + 1))))) : Int) > 32) then
                        some (((5, (ByteArray.extract s0 (Int.toNat j1) (Int.toNat (IntKind.wrap IntKind.i64 (j1 + 1))), (0, (j1, ())))), (0, (71, ()))), ())
                      else some (((5, (ByteArray.extract s0 (Int.toNat j1) (Int.toNat (IntKind.wrap IntKind.i64 (j1 + 1))), (0, (j1, ())))), (IntKind.wrap IntKind.i64 (j1 + 1), (0, ()))), ())
                    else none
                  else none
                else none
              else bif bt s0 j1 == 46 then
                if 0 ≤ j1 then
                  if j1 ≤ IntKind.wrap IntKind.i64 (j1 + 1) then
                    if IntKind.wrap IntKind.i64 (j1 + 1) ≤ (↑(ByteArray.size s0) : Int) then
                      bif decide ((↑(ByteArray.size (ByteArray.extract s0 (Int.toNat j1) (Int.toNat (IntKind.wrap IntKind.i64 (j1 + 1))))) : Int) > 32) then
                        some (((5, (ByteArray.extract s0 (Int.toNat j1) (Int.toNat (IntKind.wrap IntKind.i64 (j1 + 1))), (0, (j1, ())))), (0, (71, ()))), ())
                      else some (((5, (ByteArray.extract s0 (Int.toNat j1) (Int.toNat (IntKind.wrap IntKind.i64 (j1 + 1))), (0, (j1, ())))), (IntKind.wrap IntKind.i64 (j1 + 1), (0, ()))), ())
                    else none
                  else none
                else none
              else bif bt s0 j1 == 58 then
                if 0 ≤ j1 then
                  if j1 ≤ IntKind.wrap IntKind.i64 (j1 + 1) then
                    if IntKind.wrap IntKind.i64 (j1 + 1) ≤ (↑(ByteArray.size s0) : Int) then
                      bif decide ((↑(ByteArray.size (ByteArray.extract s0 (Int.toNat j1) (Int.toNat (IntKind.wrap IntKind.i64 (j1 + 1))))) : Int) > 32) then
                        some (((5, (ByteArray.extract s0 (Int.toNat j1) (Int.toNat (IntKind.wrap IntKind.i64 (j1 + 1))), (0, (j1, ())))), (0, (71, ()))), ())
                      else some (((5, (ByteArray.extract s0 (Int.toNat j1) (Int.toNat (IntKind.wrap IntKind.i64 (j1 + 1))), (0, (j1, ())))), (IntKind.wrap IntKind.i64 (j1 + 1), (0, ()))), ())
                    else none
                  else none
                else none
              else some (((0, (ByteArray.mk #[], (0, (j1, ())))), (0, (70, ()))), ())
            else none
          else none
        else bif bt s0 j1 == 40 then
          if 0 ≤ j1 then
            if j1 ≤ IntKind.wrap IntKind.i64 (j1 + 1) then
              if IntKind.wrap IntKind.i64 (j1 + 1) ≤ (↑(ByteArray.size s0) : Int) then
                bif decide ((↑(ByteArray.size (ByteArray.extract s0 (Int.toNat j1) (Int.toNat (IntKind.wrap IntKind.i64 (j1 + 1))))) : Int) > 32) then
                  some (((5, (ByteArray.extract s0 (Int.toNat j1) (Int.toNat (IntKind.wrap IntKind.i64 (j1 + 1))), (0, (j1, ())))), (0, (71, ()))), ())
                else some (((5, (ByteArray.extract s0 (Int.toNat j1) (Int.toNat (IntKind.wrap IntKind.i64 (j1 + 1))), (0, (j1, ())))), (IntKind.wrap IntKind.i64 (j1 + 1), (0, ()))), ())
              else none
            else none
          else none
        else bif bt s0 j1 == 41 then
          if 0 ≤ j1 then
            if j1 ≤ IntKind.wrap IntKind.i64 (j1 + 1) then
              if IntKind.wrap IntKind.i64 (j1 + 1) ≤ (↑(ByteArray.size s0) : Int) then
                bif decide ((↑(ByteArray.size (ByteArray.extract s0 (Int.toNat j1) (Int.toNat (IntKind.wrap IntKind.i64 (j1 + 1))))) : Int) > 32) then
                  some (((5, (ByteArray.extract s0 (Int.toNat j1) (Int.toNat (IntKind.wrap IntKind.i64 (j1 + 1))), (0, (j1, ())))), (0, (71, ()))), ())
                else some (((5, (ByteArray.extract s0 (Int.toNat j1) (Int.toNat (IntKind.wrap IntKind.i64 (j1 + 1))), (0, (j1, ())))), (IntKind.wrap IntKind.i64 (j1 + 1), (0, ()))), ())
              else none
            else none
          else none
        else bif bt s0 j1 == 44 then
          if 0 ≤ j1 then
            if j1 ≤ IntKind.wrap IntKind.i64 (j1 + 1) then
              if IntKind.wrap IntKind.i64 (j1 + 1) ≤ (↑(ByteArray.size s0) : Int) then
                bif decide ((↑(ByteArray.size (ByteArray.extract s0 (Int.toNat j1) (Int.toNat (IntKind.wrap IntKind.i64 (j1 + 1))))) : Int) > 32) then
                  some (((5, (ByteArray.extract s0 (Int.toNat j1) (Int.toNat (IntKind.wrap IntKind.i64 (j1 + 1))), (0, (j1, ())))), (0, (71, ()))), ())
                else some (((5, (ByteArray.extract s0 (Int.toNat j1) (Int.toNat (IntKind.wrap IntKind.i64 (j1 + 1))), (0, (j1, ())))), (IntKind.wrap IntKind.i64 (j1 + 1), (0, ()))), ())
              else none
            else none
          else none
        else bif bt s0 j1 == 46 then
          if 0 ≤ j1 then
            if j1 ≤ IntKind.wrap IntKind.i64 (j1 + 1) then
              if IntKind.wrap IntKind.i64 (j1 + 1) ≤ (↑(ByteArray.size s0) : Int) then
                bif decide ((↑(ByteArray.size (ByteArray.extract s0 (Int.toNat j1) (Int.toNat (IntKind.wrap IntKind.i64 (j1 + 1))))) : Int) > 32) then
                  some (((5, (ByteArray.extract s0 (Int.toNat j1) (Int.toNat (IntKind.wrap IntKind.i64 (j1 + 1))), (0, (j1, ())))), (0, (71, ()))), ())
                else some (((5, (ByteArray.extract s0 (Int.toNat j1) (Int.toNat (IntKind.wrap IntKind.i64 (j1 + 1))), (0, (j1, ())))), (IntKind.wrap IntKind.i64 (j1 + 1), (0, ()))), ())
              else none
            else none
          else none
        else bif bt s0 j1 == 58 then
          if 0 ≤ j1 then
            if j1 ≤ IntKind.wrap IntKind.i64 (j1 + 1) then
              if IntKind.wrap IntKind.i64 (j1 + 1) ≤ (↑(ByteArray.size s0) : Int) then
                bif decide ((↑(ByteArray.size (ByteArray.extract s0 (Int.toNat j1) (Int.toNat (IntKind.wrap IntKind.i64 (j1 + 1))))) : Int) > 32) then
                  some (((5, (ByteArray.extract s0 (Int.toNat j1) (Int.toNat (IntKind.wrap IntKind.i64 (j1 + 1))), (0, (j1, ())))), (0, (71, ()))), ())
                else some (((5, (ByteArray.extract s0 (Int.toNat j1) (Int.toNat (IntKind.wrap IntKind.i64 (j1 + 1))), (0, (j1, ())))), (IntKind.wrap IntKind.i64 (j1 + 1), (0, ()))), ())
              else none
            else none
          else none
        else some (((0, (ByteArray.mk #[], (0, (j1, ())))), (0, (70, ()))), ())
      else bif bt s0 j1 == 40 then
        if 0 ≤ j1 then
          if j1 ≤ IntKind.wrap IntKind.i64 (j1 + 1) then
            if IntKind.wrap IntKind.i64 (j1 + 1) ≤ (↑(ByteArray.size s0) : Int) then
              bif decide ((↑(ByteArray.size (ByteArray.extract s0 (Int.toNat j1) (Int.toNat (IntKind.wrap IntKind.i64 (j1 + 1))))) : Int) > 32) then
                some (((5, (ByteArray.extract s0 (Int.toNat j1) (Int.toNat (IntKind.wrap IntKind.i64 (j1 + 1))), (0, (j1, ())))), (0, (71, ()))), ())
              else some (((5, (ByteArray.extract s0 (Int.toNat j1) (Int.toNat (IntKind.wrap IntKind.i64 (j1 + 1))), (0, (j1, ())))), (IntKind.wrap IntKind.i64 (j1 + 1), (0, ()))), ())
            else none
          else none
        else none
      else bif bt s0 j1 == 41 then
        if 0 ≤ j1 then
          if j1 ≤ IntKind.wrap IntKind.i64 (j1 + 1) then
            if IntKind.wrap IntKind.i64 (j1 + 1) ≤ (↑(ByteArray.size s0) : Int) then
              bif decide ((↑(ByteArray.size (ByteArray.extract s0 (Int.toNat j1) (Int.toNat (IntKind.wrap IntKind.i64 (j1 + 1))))) : Int) > 32) then
                some (((5, (ByteArray.extract s0 (Int.toNat j1) (Int.toNat (IntKind.wrap IntKind.i64 (j1 + 1))), (0, (j1, ())))), (0, (71, ()))), ())
              else some (((5, (ByteArray.extract s0 (Int.toNat j1) (Int.toNat (IntKind.wrap IntKind.i64 (j1 + 1))), (0, (j1, ())))), (IntKind.wrap IntKind.i64 (j1 + 1), (0, ()))), ())
            else none
          else none
        else none
      else bif bt s0 j1 == 44 then
        if 0 ≤ j1 then
          if j1 ≤ IntKind.wrap IntKind.i64 (j1 + 1) then
            if IntKind.wrap IntKind.i64 (j1 + 1) ≤ (↑(ByteArray.size s0) : Int) then
              bif decide ((↑(ByteArray.size (ByteArray.extract s0 (Int.toNat j1) (Int.toNat (IntKind.wrap IntKind.i64 (j1 + 1))))) : Int) > 32) then
                some (((5, (ByteArray.extract s0 (Int.toNat j1) (Int.toNat (IntKind.wrap IntKind.i64 (j1 + 1))), (0, (j1, ())))), (0, (71, ()))), ())
              else some (((5, (ByteArray.extract s0 (Int.toNat j1) (Int.toNat (IntKind.wrap IntKind.i64 (j1 + 1))), (0, (j1, ())))), (IntKind.wrap IntKind.i64 (j1 + 1), (0, ()))), ())
            else none
          else none
        else none
      else bif bt s0 j1 == 46 then
        if 0 ≤ j1 then
          if j1 ≤ IntKind.wrap IntKind.i64 (j1 + 1) then
            if IntKind.wrap IntKind.i64 (j1 + 1) ≤ (↑(ByteArray.size s0) : Int) then
              bif decide ((↑(ByteArray.size (ByteArray.extract s0 (Int.toNat j1) (Int.toNat (IntKind.wrap IntKind.i64 (j1 + 1))))) : Int) > 32) then
                some (((5, (ByteArray.extract s0 (Int.toNat j1) (Int.toNat (IntKind.wrap IntKind.i64 (j1 + 1))), (0, (j1, ())))), (0, (71, ()))), ())
              else some (((5, (ByteArray.extract s0 (Int.toNat j1) (Int.toNat (IntKind.wrap IntKind.i64 (j1 + 1))), (0, (j1, ())))), (IntKind.wrap IntKind.i64 (j1 + 1), (0, ()))), ())
            else none
          else none
        else none
      else bif bt s0 j1 == 58 then
        if 0 ≤ j1 then
          if j1 ≤ IntKind.wrap IntKind.i64 (j1 + 1) then
            if IntKind.wrap IntKind.i64 (j1 + 1) ≤ (↑(ByteArray.size s0) : Int) then
              bif decide ((↑(ByteArray.size (ByteArray.extract s0 (Int.toNat j1) (Int.toNat (IntKind.wrap IntKind.i64 (j1 + 1))))) : Int) > 32) then
                some (((5, (ByteArray.extract s0 (Int.toNat j1) (Int.toNat (IntKind.wrap IntKind.i64 (j1 + 1))), (0, (j1, ())))), (0, (71, ()))), ())
              else some (((5, (ByteArray.extract s0 (Int.toNat j1) (Int.toNat (IntKind.wrap IntKind.i64 (j1 + 1))), (0, (j1, ())))), (IntKind.wrap IntKind.i64 (j1 + 1), (0, ()))), ())
            else none
          else none
        else none
      else some (((0, (ByteArray.mk #[], (0, (j1, ())))), (0, (70, ()))), ())
    else none
  else none := by kernel_rfl
theorem lex_one_c (n : Nat) (s0 : ByteArray) (j1 : Int) (y : ((Int × ByteArray × Int × Int × Unit) × Int × Int × Unit) × Unit) (h : lex_one_v n s0 j1 = some y) : Contract Try.prog 27 [AV.dv (DV.val (Value.string s0)), AV.dv (DV.val (Value.int IntKind.i64 j1))] [] (OSh.enc (OSh.plain (.tup [.agg [.i IntKind.i64, .s, .i IntKind.i64, .i IntKind.i64], .i IntKind.i64, .i IntKind.i64]) []) y) :=
  auto_okM tm_std (with_ok mixed (by kernel_rfl) (lex_one_σok n) n 0 []) (with_pick mixed (by kernel_rfl) (lex_one_σok n) n 0 []) mixed Try.func27 (by decide) (o := (OSh.plain (.tup [.agg [.i IntKind.i64, .s, .i IntKind.i64, .i IntKind.i64], .i IntKind.i64, .i IntKind.i64]) [])) h
/-! lex_Tokens: function 14 -/
def lex_Tokens_lv : Live := [(4, [0, 2, 3], [1000, 1001, 1002, 1003])]
noncomputable def lex_Tokens_σ (n : Nat) : Spec := (inst 26 [.s, .i IntKind.i64] [] (OSh.plain (.i IntKind.i64) []) (fun x e => lex_skip_v n x.1 x.2.1) (inst 27 [.s, .i IntKind.i64] [] (OSh.plain (.tup [.agg [.i IntKind.i64, .s, .i IntKind.i64, .i IntKind.i64], .i IntKind.i64, .i IntKind.i64]) []) (fun x e => lex_one_v n x.1 x.2.1) Spec.none))
theorem lex_Tokens_σok (n : Nat) : SpecOk Try.prog (lex_Tokens_σ n) := (inst_ok (fun x e y h => lex_skip_c n x.1 x.2.1 y h) (inst_ok (fun x e y h => lex_one_c n x.1 x.2.1 y h) (SpecOk.none _)))
noncomputable def lex_Tokens_Φ (n : Nat) : Orc := with_ Try.prog (lex_Tokens_σ n) [] n 0 []
noncomputable def lex_Tokens_v (n : Nat) (s0 : ByteArray) : Option (((Bool × Rows) × Int × Int × Unit) × Unit) :=
  DM.denFn tm (lex_Tokens_Φ n) lex_Tokens_lv n Try.f14 false [AV.dv (DV.val (Value.string s0))] [] (OSh.chk (OSh.plain (.tup [.sl [Kd.i IntKind.i64, Kd.s, Kd.i IntKind.i64, Kd.i IntKind.i64], .i IntKind.i64, .i IntKind.i64]) []))
noncomputable def lex_Tokens_l4 (n : Nat) (s0 : ByteArray) (i0 : Nat) (j2 : Int) (b5 : Bool) (r6 : List (List DV)) : Option (((Bool × Rows) × Int × Int × Unit) × Unit) :=
  DM.loopFn tm (lex_Tokens_Φ n) lex_Tokens_lv n Try.f14 false [] (OSh.chk (OSh.plain (.tup [.sl [Kd.i IntKind.i64, Kd.s, Kd.i IntKind.i64, Kd.i IntKind.i64], .i IntKind.i64, .i IntKind.i64]) [])) 4 [] i0 (St.mk [AV.dv (DV.val (Value.string s0)), AV.junk, AV.sl b5 [Kd.i IntKind.i64, Kd.s, Kd.i IntKind.i64, Kd.i IntKind.i64] r6 (Right.tok 2), AV.dv (DV.val (Value.int IntKind.i64 j2)), AV.junk, AV.junk, AV.junk, AV.junk, AV.junk, AV.junk, AV.junk, AV.junk, AV.junk, AV.junk, AV.junk, AV.junk, AV.junk, AV.junk, AV.junk, AV.junk, AV.junk, AV.junk, AV.junk, AV.junk, AV.junk, AV.junk, AV.junk, AV.junk, AV.junk, AV.junk, AV.junk, AV.junk, AV.junk, AV.junk, AV.junk, AV.junk] [])
theorem lex_Tokens_s4 (n : Nat) (s0 : ByteArray) (i0 : Nat) (j2 : Int) (b5 : Bool) (r6 : List (List DV)) : lex_Tokens_l4 n s0 (i0 + 1) j2 b5 r6 =
  bif decide (j2 < (↑(ByteArray.size s0) : Int)) then
    obind (lex_one_v n s0 j2) fun y7 =>
    bif y7.fst.snd.snd.fst != 0 then
      some (((true, []), (j2, (y7.fst.snd.snd.fst, ()))), ())
    else if (List.length r6 + List.length [[DV.val (Value.int IntKind.i64 y7.fst.fst.fst), DV.val (Value.string y7.fst.fst.snd.fst), DV.val (Value.int IntKind.i64 y7.fst.fst.snd.snd.fst), DV.val (Value.int IntKind.i64 y7.fst.fst.snd.snd.snd.fst)]]) * 40 ≤ 140737488355328 then
      obind (lex_skip_v n s0 y7.fst.snd.fst) fun y8 =>
      lex_Tokens_l4 n s0 i0 y8.fst (b5 && List.isEmpty [[DV.val (Value.int IntKind.i64 y7.fst.fst.fst), DV.val (Value.string y7.fst.fst.snd.fst), DV.val (Value.int IntKind.i64 y7.fst.fst.snd.snd.fst), DV.val (Value.int IntKind.i64 y7.fst.fst.snd.snd.snd.fst)]]) (appX r6 [[DV.val (Value.int IntKind.i64 y7.fst.fst.fst), DV.val (Value.string y7.fst.fst.snd.fst), DV.val (Value.int IntKind.i64 y7.fst.fst.snd.snd.fst), DV.val (Value.int IntKind.i64 y7.fst.fst.snd.snd.snd.fst)]])
    else none
  else some (((b5, r6), (0, (0, ()))), ()) := by kernel_rfl
theorem lex_Tokens_e (n : Nat) (s0 : ByteArray) : lex_Tokens_v n s0 =
  bif decide ((↑(ByteArray.size s0) : Int) > 4096) then
    some (((true, []), (0, (3, ()))), ())
  else obind (lex_skip_v n s0 0) fun y1 =>
  lex_Tokens_l4 n s0 n y1.fst true [] := by kernel_rfl
theorem lex_Tokens_c (n : Nat) (s0 : ByteArray) (y : ((Bool × Rows) × Int × Int × Unit) × Unit) (h : lex_Tokens_v n s0 = some y) : Contract Try.prog 14 [AV.dv (DV.val (Value.string s0))] [] (OSh.enc (OSh.plain (.tup [.sl [Kd.i IntKind.i64, Kd.s, Kd.i IntKind.i64, Kd.i IntKind.i64], .i IntKind.i64, .i IntKind.i64]) []) y) :=
  auto_okM tm_std (with_ok mixed (by kernel_rfl) (lex_Tokens_σok n) n 0 []) (with_pick mixed (by kernel_rfl) (lex_Tokens_σok n) n 0 []) mixed Try.func14 (by decide) (o := (OSh.plain (.tup [.sl [Kd.i IntKind.i64, Kd.s, Kd.i IntKind.i64, Kd.i IntKind.i64], .i IntKind.i64, .i IntKind.i64]) [])) h
/-! parse_parser_next: function 53 -/
def parse_parser_next_lv : Live := []
noncomputable def parse_parser_next_σ (n : Nat) : Spec := Spec.none
theorem parse_parser_next_σok (n : Nat) : SpecOk Try.prog (parse_parser_next_σ n) := (SpecOk.none _)
noncomputable def parse_parser_next_Φ (n : Nat) : Orc := with_ Try.prog (parse_parser_next_σ n) [] n 0 []
noncomputable def parse_parser_next_v (n : Nat) (b0 : Bool) (r1 : Rows) (j2 : Int) : Option ((Int × ByteArray × Int × Int × Unit) × ((Bool × Rows) × Int × Unit) × Unit) :=
  DM.denFn tm (parse_parser_next_Φ n) parse_parser_next_lv n Try.f53 false [AV.pl 1000 0] [[AV.sl b0 [Kd.i IntKind.i64, Kd.s, Kd.i IntKind.i64, Kd.i IntKind.i64] r1 Right.no, AV.dv (DV.val (Value.int IntKind.i64 j2))]] (OSh.chk (OSh.plain (.agg [.i IntKind.i64, .s, .i IntKind.i64, .i IntKind.i64]) [[.sl [Kd.i IntKind.i64, Kd.s, Kd.i IntKind.i64, Kd.i IntKind.i64], .i IntKind.i64]]))
theorem parse_parser_next_e (n : Nat) (b0 : Bool) (r1 : Rows) (j2 : Int) : parse_parser_next_v n b0 r1 j2 =
  bif (↑(List.length r1) : Int) == 0 then
    some ((0, (ByteArray.mk #[], (0, (j2, ())))), (((b0, r1), (j2, ())), ()))
  else if 0 < (↑(List.length r1) : Int) then
    some ((Row.I (List.getD r1 0 []) 0, (Row.S (List.getD r1 0 []) 1, (Row.I (List.getD r1 0 []) 2, (Row.I (List.getD r1 0 []) 3, ())))), (((b0, r1), (j2, ())), ()))
  else none := by kernel_rfl
theorem parse_parser_next_c (n : Nat) (b0 : Bool) (r1 : Rows) (j2 : Int) (y : (Int × ByteArray × Int × Int × Unit) × ((Bool × Rows) × Int × Unit) × Unit) (h : parse_parser_next_v n b0 r1 j2 = some y) : Contract Try.prog 53 [AV.pl 1000 0] [[AV.sl b0 [Kd.i IntKind.i64, Kd.s, Kd.i IntKind.i64, Kd.i IntKind.i64] r1 Right.no, AV.dv (DV.val (Value.int IntKind.i64 j2))]] (OSh.enc (OSh.plain (.agg [.i IntKind.i64, .s, .i IntKind.i64, .i IntKind.i64]) [[.sl [Kd.i IntKind.i64, Kd.s, Kd.i IntKind.i64, Kd.i IntKind.i64], .i IntKind.i64]]) y) :=
  auto_okM tm_std (with_ok mixed (by kernel_rfl) (parse_parser_next_σok n) n 0 []) (with_pick mixed (by kernel_rfl) (parse_parser_next_σok n) n 0 []) mixed Try.func53 (by decide) (o := (OSh.plain (.agg [.i IntKind.i64, .s, .i IntKind.i64, .i IntKind.i64]) [[.sl [Kd.i IntKind.i64, Kd.s, Kd.i IntKind.i64, Kd.i IntKind.i64], .i IntKind.i64]])) h
/-! parse_kept: function 54 -/
def parse_kept_lv : Live := []
noncomputable def parse_kept_σ (n : Nat) : Spec := Spec.none
theorem parse_kept_σok (n : Nat) : SpecOk Try.prog (parse_kept_σ n) := (SpecOk.none _)
noncomputable def parse_kept_Φ (n : Nat) : Orc := with_ Try.prog (parse_kept_σ n) [] n 0 []
noncomputable def parse_kept_v (n : Nat) (s0 : ByteArray) : Option (Bool × Unit) :=
  DM.denFn tm (parse_kept_Φ n) parse_kept_lv n Try.f54 false [AV.dv (DV.val (Value.string s0))] [] (OSh.chk (OSh.plain (.b) []))
theorem parse_kept_e (n : Nat) (s0 : ByteArray) : parse_kept_v n s0 =
  bif s0 == ByteArray.mk #[115, 97, 121, 115] then
    some (true, ())
  else bif s0 == ByteArray.mk #[116, 111] then
    some (true, ())
  else some (s0 == ByteArray.mk #[97, 116], ()) := by kernel_rfl
theorem parse_kept_c (n : Nat) (s0 : ByteArray) (y : Bool × Unit) (h : parse_kept_v n s0 = some y) : Contract Try.prog 54 [AV.dv (DV.val (Value.string s0))] [] (OSh.enc (OSh.plain (.b) []) y) :=
  auto_okM tm_std (with_ok mixed (by kernel_rfl) (parse_kept_σok n) n 0 []) (with_pick mixed (by kernel_rfl) (parse_kept_σok n) n 0 []) mixed Try.func54 (by decide) (o := (OSh.plain (.b) [])) h
/-! parse_parser_begins: function 35 -/
def parse_parser_begins_lv : Live := []
noncomputable def parse_parser_begins_σ (n : Nat) : Spec := (inst 53 [.pl 1000 0] [[.sl [Kd.i IntKind.i64, Kd.s, Kd.i IntKind.i64, Kd.i IntKind.i64], .i IntKind.i64]] (OSh.plain (.agg [.i IntKind.i64, .s, .i IntKind.i64, .i IntKind.i64]) [[.sl [Kd.i IntKind.i64, Kd.s, Kd.i IntKind.i64, Kd.i IntKind.i64], .i IntKind.i64]]) (fun x e => parse_parser_next_v n e.1.1.1 e.1.1.2 e.1.2.1) (inst 54 [.s] [] (OSh.plain (.b) []) (fun x e => parse_kept_v n x.1) Spec.none))
theorem parse_parser_begins_σok (n : Nat) : SpecOk Try.prog (parse_parser_begins_σ n) := (inst_ok (fun x e y h => parse_parser_next_c n e.1.1.1 e.1.1.2 e.1.2.1 y h) (inst_ok (fun x e y h => parse_kept_c n x.1 y h) (SpecOk.none _)))
noncomputable def parse_parser_begins_Φ (n : Nat) : Orc := with_ Try.prog (parse_parser_begins_σ n) [] n 0 []
noncomputable def parse_parser_begins_v (n : Nat) (b0 : Bool) (r1 : Rows) (j2 : Int) : Option (Bool × ((Bool × Rows) × Int × Unit) × Unit) :=
  DM.denFn tm (parse_parser_begins_Φ n) parse_parser_begins_lv n Try.f35 false [AV.pl 1000 0] [[AV.sl b0 [Kd.i IntKind.i64, Kd.s, Kd.i IntKind.i64, Kd.i IntKind.i64] r1 Right.no, AV.dv (DV.val (Value.int IntKind.i64 j2))]] (OSh.chk (OSh.plain (.b) [[.sl [Kd.i IntKind.i64, Kd.s, Kd.i IntKind.i64, Kd.i IntKind.i64], .i IntKind.i64]]))
theorem parse_parser_begins_e (n : Nat) (b0 : Bool) (r1 : Rows) (j2 : Int) : parse_parser_begins_v n b0 r1 j2 =
  obind (parse_parser_next_v n b0 r1 j2) fun y3 =>
  bif y3.fst.fst == 2 then
    some (true, (((y3.snd.fst.fst.fst, y3.snd.fst.fst.snd), (y3.snd.fst.snd.fst, ())), ()))
  else bif y3.fst.fst == 3 then
    some (true, (((y3.snd.fst.fst.fst, y3.snd.fst.fst.snd), (y3.snd.fst.snd.fst, ())), ()))
  else bif y3.fst.fst == 1 then
    obind (parse_kept_v n y3.fst.snd.fst) fun y4 =>
    bif !y4.fst then
      some (true, (((y3.snd.fst.fst.fst, y3.snd.fst.fst.snd), (y3.snd.fst.snd.fst, ())), ()))
    else bif y3.fst.fst == 4 then
      some (!y3.fst.snd.fst == ByteArray.mk #[], (((y3.snd.fst.fst.fst, y3.snd.fst.fst.snd), (y3.snd.fst.snd.fst, ())), ()))
    else some (false, (((y3.snd.fst.fst.fst, y3.snd.fst.fst.snd), (y3.snd.fst.snd.fst, ())), ()))
  else bif y3.fst.fst == 4 then
    some (!y3.fst.snd.fst == ByteArray.mk #[], (((y3.snd.fst.fst.fst, y3.snd.fst.fst.snd), (y3.snd.fst.snd.fst, ())), ()))
  else some (false, (((y3.snd.fst.fst.fst, y3.snd.fst.fst.snd), (y3.snd.fst.snd.fst, ())), ())) := by kernel_rfl
theorem parse_parser_begins_c (n : Nat) (b0 : Bool) (r1 : Rows) (j2 : Int) (y : Bool × ((Bool × Rows) × Int × Unit) × Unit) (h : parse_parser_begins_v n b0 r1 j2 = some y) : Contract Try.prog 35 [AV.pl 1000 0] [[AV.sl b0 [Kd.i IntKind.i64, Kd.s, Kd.i IntKind.i64, Kd.i IntKind.i64] r1 Right.no, AV.dv (DV.val (Value.int IntKind.i64 j2))]] (OSh.enc (OSh.plain (.b) [[.sl [Kd.i IntKind.i64, Kd.s, Kd.i IntKind.i64, Kd.i IntKind.i64], .i IntKind.i64]]) y) :=
  auto_okM tm_std (with_ok mixed (by kernel_rfl) (parse_parser_begins_σok n) n 0 []) (with_pick mixed (by kernel_rfl) (parse_parser_begins_σok n) n 0 []) mixed Try.func35 (by decide) (o := (OSh.plain (.b) [[.sl [Kd.i IntKind.i64, Kd.s, Kd.i IntKind.i64, Kd.i IntKind.i64], .i IntKind.i64]])) h
/-! parse_parser_fail: function 36 -/
def parse_parser_fail_lv : Live := []
noncomputable def parse_parser_fail_σ (n : Nat) : Spec := (inst 53 [.pl 1000 0] [[.sl [Kd.i IntKind.i64, Kd.s, Kd.i IntKind.i64, Kd.i IntKind.i64], .i IntKind.i64]] (OSh.plain (.agg [.i IntKind.i64, .s, .i IntKind.i64, .i IntKind.i64]) [[.sl [Kd.i IntKind.i64, Kd.s, Kd.i IntKind.i64, Kd.i IntKind.i64], .i IntKind.i64]]) (fun x e => parse_parser_next_v n e.1.1.1 e.1.1.2 e.1.2.1) Spec.none)
theorem parse_parser_fail_σok (n : Nat) : SpecOk Try.prog (parse_parser_fail_σ n) := (inst_ok (fun x e y h => parse_parser_next_c n e.1.1.1 e.1.1.2 e.1.2.1 y h) (SpecOk.none _))
noncomputable def parse_parser_fail_Φ (n : Nat) : Orc := with_ Try.prog (parse_parser_fail_σ n) [] n 0 []
noncomputable def parse_parser_fail_v (n : Nat) (j0 : Int) (b1 : Bool) (r2 : Rows) (j3 : Int) : Option (Bool × Unit × (Int × Int × Unit) × ((Bool × Rows) × Int × Unit) × Unit) :=
  DM.denFn tm (parse_parser_fail_Φ n) parse_parser_fail_lv n Try.f36 false [AV.pl 1000 0, AV.dv (DV.val (Value.int IntKind.i64 j0))] [[AV.sl b1 [Kd.i IntKind.i64, Kd.s, Kd.i IntKind.i64, Kd.i IntKind.i64] r2 Right.no, AV.dv (DV.val (Value.int IntKind.i64 j3))]] (OSh.chk (OSh.pan (.junk) (.ifc 53 (.agg [.i IntKind.i64, .i IntKind.i64])) [[.sl [Kd.i IntKind.i64, Kd.s, Kd.i IntKind.i64, Kd.i IntKind.i64], .i IntKind.i64]]))
theorem parse_parser_fail_e (n : Nat) (j0 : Int) (b1 : Bool) (r2 : Rows) (j3 : Int) : parse_parser_fail_v n j0 b1 r2 j3 =
  obind (parse_parser_next_v n b1 r2 j3) fun y4 =>
  some (true, Sh.dflt (.junk), (y4.fst.snd.snd.snd.fst, (j0, ())), (((y4.snd.fst.fst.fst, y4.snd.fst.fst.snd), (y4.snd.fst.snd.fst, ())), ())) := by kernel_rfl
theorem parse_parser_fail_c (n : Nat) (j0 : Int) (b1 : Bool) (r2 : Rows) (j3 : Int) (y : Bool × Unit × (Int × Int × Unit) × ((Bool × Rows) × Int × Unit) × Unit) (h : parse_parser_fail_v n j0 b1 r2 j3 = some y) : Contract Try.prog 36 [AV.pl 1000 0, AV.dv (DV.val (Value.int IntKind.i64 j0))] [[AV.sl b1 [Kd.i IntKind.i64, Kd.s, Kd.i IntKind.i64, Kd.i IntKind.i64] r2 Right.no, AV.dv (DV.val (Value.int IntKind.i64 j3))]] (OSh.enc (OSh.pan (.junk) (.ifc 53 (.agg [.i IntKind.i64, .i IntKind.i64])) [[.sl [Kd.i IntKind.i64, Kd.s, Kd.i IntKind.i64, Kd.i IntKind.i64], .i IntKind.i64]]) y) :=
  auto_okM tm_std (with_ok mixed (by kernel_rfl) (parse_parser_fail_σok n) n 0 []) (with_pick mixed (by kernel_rfl) (parse_parser_fail_σok n) n 0 []) mixed Try.func36 (by decide) (o := (OSh.pan (.junk) (.ifc 53 (.agg [.i IntKind.i64, .i IntKind.i64])) [[.sl [Kd.i IntKind.i64, Kd.s, Kd.i IntKind.i64, Kd.i IntKind.i64], .i IntKind.i64]])) h
/-! parse_parser_term: function 55 -/
def parse_parser_term_lv : Live := []
noncomputable def parse_parser_term_σ (n : Nat) : Spec := (inst 35 [.pl 1000 0] [[.sl [Kd.i IntKind.i64, Kd.s, Kd.i IntKind.i64, Kd.i IntKind.i64], .i IntKind.i64]] (OSh.plain (.b) [[.sl [Kd.i IntKind.i64, Kd.s, Kd.i IntKind.i64, Kd.i IntKind.i64], .i IntKind.i64]]) (fun x e => parse_parser_begins_v n e.1.1.1 e.1.1.2 e.1.2.1) (inst 36 [.pl 1000 0, .i IntKind.i64] [[.sl [Kd.i IntKind.i64, Kd.s, Kd.i IntKind.i64, Kd.i IntKind.i64], .i IntKind.i64]] (OSh.pan (.junk) (.ifc 53 (.agg [.i IntKind.i64, .i IntKind.i64])) [[.sl [Kd.i IntKind.i64, Kd.s, Kd.i IntKind.i64, Kd.i IntKind.i64], .i IntKind.i64]]) (fun x e => parse_parser_fail_v n x.2.1 e.1.1.1 e.1.1.2 e.1.2.1) (inst 53 [.pl 1000 0] [[.sl [Kd.i IntKind.i64, Kd.s, Kd.i IntKind.i64, Kd.i IntKind.i64], .i IntKind.i64]] (OSh.plain (.agg [.i IntKind.i64, .s, .i IntKind.i64, .i IntKind.i64]) [[.sl [Kd.i IntKind.i64, Kd.s, Kd.i IntKind.i64, Kd.i IntKind.i64], .i IntKind.i64]]) (fun x e => parse_parser_next_v n e.1.1.1 e.1.1.2 e.1.2.1) Spec.none)))
theorem parse_parser_term_σok (n : Nat) : SpecOk Try.prog (parse_parser_term_σ n) := (inst_ok (fun x e y h => parse_parser_begins_c n e.1.1.1 e.1.1.2 e.1.2.1 y h) (inst_ok (fun x e y h => parse_parser_fail_c n x.2.1 e.1.1.1 e.1.1.2 e.1.2.1 y h) (inst_ok (fun x e y h => parse_parser_next_c n e.1.1.1 e.1.1.2 e.1.2.1 y h) (SpecOk.none _))))
noncomputable def parse_parser_term_Φ (n : Nat) : Orc := with_ Try.prog (parse_parser_term_σ n) [] n 0 []
noncomputable def parse_parser_term_v (n : Nat) (b0 : Bool) (r1 : Rows) (j2 : Int) : Option (Bool × (ByteArray × Bool × Int × ByteArray × Unit) × (Int × Int × Unit) × ((Bool × Rows) × Int × Unit) × Unit) :=
  DM.denFn tm (parse_parser_term_Φ n) parse_parser_term_lv n Try.f55 false [AV.pl 1000 0] [[AV.sl b0 [Kd.i IntKind.i64, Kd.s, Kd.i IntKind.i64, Kd.i IntKind.i64] r1 Right.no, AV.dv (DV.val (Value.int IntKind.i64 j2))]] (OSh.chk (OSh.pan (.agg [.s, .b, .i IntKind.i64, .s]) (.ifc 53 (.agg [.i IntKind.i64, .i IntKind.i64])) [[.sl [Kd.i IntKind.i64, Kd.s, Kd.i IntKind.i64, Kd.i IntKind.i64], .i IntKind.i64]]))
theorem parse_parser_term_e (n : Nat) (b0 : Bool) (r1 : Rows) (j2 : Int) : parse_parser_term_v n b0 r1 j2 =
  obind (parse_parser_begins_v n b0 r1 j2) fun y3 =>
  bif !y3.fst then
    obind (parse_parser_fail_v n 80 y3.snd.fst.fst.fst y3.snd.fst.fst.snd y3.snd.fst.snd.fst) fun y4 =>
    bif y4.fst then
      some (true, Sh.dflt (.agg [.s, .b, .i IntKind.i64, .s]), (y4.snd.snd.fst.fst, (y4.snd.snd.fst.snd.fst, ())), (((y4.snd.snd.snd.fst.fst.fst, y4.snd.snd.snd.fst.fst.snd), (y4.snd.snd.snd.fst.snd.fst, ())), ()))
    else obind (parse_parser_next_v n y4.snd.snd.snd.fst.fst.fst y4.snd.snd.snd.fst.fst.snd y4.snd.snd.snd.fst.snd.fst) fun y5 =>
    if 1 ≤ (↑(List.length y5.snd.fst.fst.snd) : Int) then
      if (↑(List.length y5.snd.fst.fst.snd) : Int) ≤ (↑(List.length y5.snd.fst.fst.snd) : Int) then
        bif y5.fst.fst == 2 then
          some (false, (y5.fst.snd.fst, (false, (0, (ByteArray.mk #[], ())))), Sh.dflt (.ifc 53 (.agg [.i IntKind.i64, .i IntKind.i64])), (((y5.snd.fst.fst.fst, List.drop 1 (List.take (Int.toNat (↑(List.length y5.snd.fst.fst.snd) : Int)) y5.snd.fst.fst.snd)), (y5.snd.fst.snd.fst, ())), ()))
        else bif y5.fst.fst == 3 then
          some (false, (ByteArray.mk #[], (true, (y5.fst.snd.snd.fst, (ByteArray.mk #[], ())))), Sh.dflt (.ifc 53 (.agg [.i IntKind.i64, .i IntKind.i64])), (((y5.snd.fst.fst.fst, List.drop 1 (List.take (Int.toNat (↑(List.length y5.snd.fst.fst.snd) : Int)) y5.snd.fst.fst.snd)), (y5.snd.fst.snd.fst, ())), ()))
        else some (false, (ByteArray.mk #[], (false, (0, (y5.fst.snd.fst, ())))), Sh.dflt (.ifc 53 (.agg [.i IntKind.i64, .i IntKind.i64])), (((y5.snd.fst.fst.fst, List.drop 1 (List.take (Int.toNat (↑(List.length y5.snd.fst.fst.snd) : Int)) y5.snd.fst.fst.snd)), (y5.snd.fst.snd.fst, ())), ()))
      else none
    else none
  else obind (parse_parser_next_v n y3.snd.fst.fst.fst y3.snd.fst.fst.snd y3.snd.fst.snd.fst) fun y6 =>
  if 1 ≤ (↑(List.length y6.snd.fst.fst.snd) : Int) then
    if (↑(List.length y6.snd.fst.fst.snd) : Int) ≤ (↑(List.length y6.snd.fst.fst.snd) : Int) then
      bif y6.fst.fst == 2 then
        some (false, (y6.fst.snd.fst, (false, (0, (ByteArray.mk #[], ())))), Sh.dflt (.ifc 53 (.agg [.i IntKind.i64, .i IntKind.i64])), (((y6.snd.fst.fst.fst, List.drop 1 (List.take (Int.toNat (↑(List.length y6.snd.fst.fst.snd) : Int)) y6.snd.fst.fst.snd)), (y6.snd.fst.snd.fst, ())), ()))
      else bif y6.fst.fst == 3 then
        some (false, (ByteArray.mk #[], (true, (y6.fst.snd.snd.fst, (ByteArray.mk #[], ())))), Sh.dflt (.ifc 53 (.agg [.i IntKind.i64, .i IntKind.i64])), (((y6.snd.fst.fst.fst, List.drop 1 (List.take (Int.toNat (↑(List.length y6.snd.fst.fst.snd) : Int)) y6.snd.fst.fst.snd)), (y6.snd.fst.snd.fst, ())), ()))
      else some (false, (ByteArray.mk #[], (false, (0, (y6.fst.snd.fst, ())))), Sh.dflt (.ifc 53 (.agg [.i IntKind.i64, .i IntKind.i64])), (((y6.snd.fst.fst.fst, List.drop 1 (List.take (Int.toNat (↑(List.length y6.snd.fst.fst.snd) : Int)) y6.snd.fst.fst.snd)), (y6.snd.fst.snd.fst, ())), ()))
    else none
  else none := by kernel_rfl
theorem parse_parser_term_c (n : Nat) (b0 : Bool) (r1 : Rows) (j2 : Int) (y : Bool × (ByteArray × Bool × Int × ByteArray × Unit) × (Int × Int × Unit) × ((Bool × Rows) × Int × Unit) × Unit) (h : parse_parser_term_v n b0 r1 j2 = some y) : Contract Try.prog 55 [AV.pl 1000 0] [[AV.sl b0 [Kd.i IntKind.i64, Kd.s, Kd.i IntKind.i64, Kd.i IntKind.i64] r1 Right.no, AV.dv (DV.val (Value.int IntKind.i64 j2))]] (OSh.enc (OSh.pan (.agg [.s, .b, .i IntKind.i64, .s]) (.ifc 53 (.agg [.i IntKind.i64, .i IntKind.i64])) [[.sl [Kd.i IntKind.i64, Kd.s, Kd.i IntKind.i64, Kd.i IntKind.i64], .i IntKind.i64]]) y) :=
  auto_okM tm_std (with_ok mixed (by kernel_rfl) (parse_parser_term_σok n) n 0 []) (with_pick mixed (by kernel_rfl) (parse_parser_term_σok n) n 0 []) mixed Try.func55 (by decide) (o := (OSh.pan (.agg [.s, .b, .i IntKind.i64, .s]) (.ifc 53 (.agg [.i IntKind.i64, .i IntKind.i64])) [[.sl [Kd.i IntKind.i64, Kd.s, Kd.i IntKind.i64, Kd.i IntKind.i64], .i IntKind.i64]])) h
/-! parse_parser_is: function 72 -/
def parse_parser_is_lv : Live := []
noncomputable def parse_parser_is_σ (n : Nat) : Spec := (inst 53 [.pl 1000 0] [[.sl [Kd.i IntKind.i64, Kd.s, Kd.i IntKind.i64, Kd.i IntKind.i64], .i IntKind.i64]] (OSh.plain (.agg [.i IntKind.i64, .s, .i IntKind.i64, .i IntKind.i64]) [[.sl [Kd.i IntKind.i64, Kd.s, Kd.i IntKind.i64, Kd.i IntKind.i64], .i IntKind.i64]]) (fun x e => parse_parser_next_v n e.1.1.1 e.1.1.2 e.1.2.1) (inst 54 [.s] [] (OSh.plain (.b) []) (fun x e => parse_kept_v n x.1) Spec.none))
theorem parse_parser_is_σok (n : Nat) : SpecOk Try.prog (parse_parser_is_σ n) := (inst_ok (fun x e y h => parse_parser_next_c n e.1.1.1 e.1.1.2 e.1.2.1 y h) (inst_ok (fun x e y h => parse_kept_c n x.1 y h) (SpecOk.none _)))
noncomputable def parse_parser_is_Φ (n : Nat) : Orc := with_ Try.prog (parse_parser_is_σ n) [] n 0 []
noncomputable def parse_parser_is_v (n : Nat) (s0 : ByteArray) (b1 : Bool) (r2 : Rows) (j3 : Int) : Option (Bool × ((Bool × Rows) × Int × Unit) × Unit) :=
  DM.denFn tm (parse_parser_is_Φ n) parse_parser_is_lv n Try.f72 false [AV.pl 1000 0, AV.dv (DV.val (Value.string s0))] [[AV.sl b1 [Kd.i IntKind.i64, Kd.s, Kd.i IntKind.i64, Kd.i IntKind.i64] r2 Right.no, AV.dv (DV.val (Value.int IntKind.i64 j3))]] (OSh.chk (OSh.plain (.b) [[.sl [Kd.i IntKind.i64, Kd.s, Kd.i IntKind.i64, Kd.i IntKind.i64], .i IntKind.i64]]))
theorem parse_parser_is_e (n : Nat) (s0 : ByteArray) (b1 : Bool) (r2 : Rows) (j3 : Int) : parse_parser_is_v n s0 b1 r2 j3 =
  obind (parse_parser_next_v n b1 r2 j3) fun y4 =>
  bif y4.fst.snd.fst == s0 then
    bif y4.fst.fst == 5 then
      some (true, (((y4.snd.fst.fst.fst, y4.snd.fst.fst.snd), (y4.snd.fst.snd.fst, ())), ()))
    else bif y4.fst.fst == 1 then
      obind (parse_kept_v n s0) fun y5 =>
      some (y5.fst, (((y4.snd.fst.fst.fst, y4.snd.fst.fst.snd), (y4.snd.fst.snd.fst, ())), ()))
    else some (false, (((y4.snd.fst.fst.fst, y4.snd.fst.fst.snd), (y4.snd.fst.snd.fst, ())), ()))
  else some (false, (((y4.snd.fst.fst.fst, y4.snd.fst.fst.snd), (y4.snd.fst.snd.fst, ())), ())) := by kernel_rfl
theorem parse_parser_is_c (n : Nat) (s0 : ByteArray) (b1 : Bool) (r2 : Rows) (j3 : Int) (y : Bool × ((Bool × Rows) × Int × Unit) × Unit) (h : parse_parser_is_v n s0 b1 r2 j3 = some y) : Contract Try.prog 72 [AV.pl 1000 0, AV.dv (DV.val (Value.string s0))] [[AV.sl b1 [Kd.i IntKind.i64, Kd.s, Kd.i IntKind.i64, Kd.i IntKind.i64] r2 Right.no, AV.dv (DV.val (Value.int IntKind.i64 j3))]] (OSh.enc (OSh.plain (.b) [[.sl [Kd.i IntKind.i64, Kd.s, Kd.i IntKind.i64, Kd.i IntKind.i64], .i IntKind.i64]]) y) :=
  auto_okM tm_std (with_ok mixed (by kernel_rfl) (parse_parser_is_σok n) n 0 []) (with_pick mixed (by kernel_rfl) (parse_parser_is_σok n) n 0 []) mixed Try.func72 (by decide) (o := (OSh.plain (.b) [[.sl [Kd.i IntKind.i64, Kd.s, Kd.i IntKind.i64, Kd.i IntKind.i64], .i IntKind.i64]])) h
/-! parse_parser_pass: function 59 -/
def parse_parser_pass_lv : Live := []
noncomputable def parse_parser_pass_σ (n : Nat) : Spec := (inst 72 [.pl 1000 0, .s] [[.sl [Kd.i IntKind.i64, Kd.s, Kd.i IntKind.i64, Kd.i IntKind.i64], .i IntKind.i64]] (OSh.plain (.b) [[.sl [Kd.i IntKind.i64, Kd.s, Kd.i IntKind.i64, Kd.i IntKind.i64], .i IntKind.i64]]) (fun x e => parse_parser_is_v n x.2.1 e.1.1.1 e.1.1.2 e.1.2.1) Spec.none)
theorem parse_parser_pass_σok (n : Nat) : SpecOk Try.prog (parse_parser_pass_σ n) := (inst_ok (fun x e y h => parse_parser_is_c n x.2.1 e.1.1.1 e.1.1.2 e.1.2.1 y h) (SpecOk.none _))
noncomputable def parse_parser_pass_Φ (n : Nat) : Orc := with_ Try.prog (parse_parser_pass_σ n) [] n 0 []
noncomputable def parse_parser_pass_v (n : Nat) (s0 : ByteArray) (b1 : Bool) (r2 : Rows) (j3 : Int) : Option (Bool × ((Bool × Rows) × Int × Unit) × Unit) :=
  DM.denFn tm (parse_parser_pass_Φ n) parse_parser_pass_lv n Try.f59 false [AV.pl 1000 0, AV.dv (DV.val (Value.string s0))] [[AV.sl b1 [Kd.i IntKind.i64, Kd.s, Kd.i IntKind.i64, Kd.i IntKind.i64] r2 Right.no, AV.dv (DV.val (Value.int IntKind.i64 j3))]] (OSh.chk (OSh.plain (.b) [[.sl [Kd.i IntKind.i64, Kd.s, Kd.i IntKind.i64, Kd.i IntKind.i64], .i IntKind.i64]]))
theorem parse_parser_pass_e (n : Nat) (s0 : ByteArray) (b1 : Bool) (r2 : Rows) (j3 : Int) : parse_parser_pass_v n s0 b1 r2 j3 =
  obind (parse_parser_is_v n s0 b1 r2 j3) fun y4 =>
  bif !y4.fst then
    some (false, (((y4.snd.fst.fst.fst, y4.snd.fst.fst.snd), (y4.snd.fst.snd.fst, ())), ()))
  else if 1 ≤ (↑(List.length y4.snd.fst.fst.snd) : Int) then
    if (↑(List.length y4.snd.fst.fst.snd) : Int) ≤ (↑(List.length y4.snd.fst.fst.snd) : Int) then
      some (true, (((y4.snd.fst.fst.fst, List.drop 1 (List.take (Int.toNat (↑(List.length y4.snd.fst.fst.snd) : Int)) y4.snd.fst.fst.snd)), (y4.snd.fst.snd.fst, ())), ()))
    else none
  else none := by kernel_rfl
theorem parse_parser_pass_c (n : Nat) (s0 : ByteArray) (b1 : Bool) (r2 : Rows) (j3 : Int) (y : Bool × ((Bool × Rows) × Int × Unit) × Unit) (h : parse_parser_pass_v n s0 b1 r2 j3 = some y) : Contract Try.prog 59 [AV.pl 1000 0, AV.dv (DV.val (Value.string s0))] [[AV.sl b1 [Kd.i IntKind.i64, Kd.s, Kd.i IntKind.i64, Kd.i IntKind.i64] r2 Right.no, AV.dv (DV.val (Value.int IntKind.i64 j3))]] (OSh.enc (OSh.plain (.b) [[.sl [Kd.i IntKind.i64, Kd.s, Kd.i IntKind.i64, Kd.i IntKind.i64], .i IntKind.i64]]) y) :=
  auto_okM tm_std (with_ok mixed (by kernel_rfl) (parse_parser_pass_σok n) n 0 []) (with_pick mixed (by kernel_rfl) (parse_parser_pass_σok n) n 0 []) mixed Try.func59 (by decide) (o := (OSh.plain (.b) [[.sl [Kd.i IntKind.i64, Kd.s, Kd.i IntKind.i64, Kd.i IntKind.i64], .i IntKind.i64]])) h
/-! parse_parser_must: function 56 -/
def parse_parser_must_lv : Live := []
noncomputable def parse_parser_must_σ (n : Nat) : Spec := (inst 59 [.pl 1000 0, .s] [[.sl [Kd.i IntKind.i64, Kd.s, Kd.i IntKind.i64, Kd.i IntKind.i64], .i IntKind.i64]] (OSh.plain (.b) [[.sl [Kd.i IntKind.i64, Kd.s, Kd.i IntKind.i64, Kd.i IntKind.i64], .i IntKind.i64]]) (fun x e => parse_parser_pass_v n x.2.1 e.1.1.1 e.1.1.2 e.1.2.1) (inst 36 [.pl 1000 0, .i IntKind.i64] [[.sl [Kd.i IntKind.i64, Kd.s, Kd.i IntKind.i64, Kd.i IntKind.i64], .i IntKind.i64]] (OSh.pan (.junk) (.ifc 53 (.agg [.i IntKind.i64, .i IntKind.i64])) [[.sl [Kd.i IntKind.i64, Kd.s, Kd.i IntKind.i64, Kd.i IntKind.i64], .i IntKind.i64]]) (fun x e => parse_parser_fail_v n x.2.1 e.1.1.1 e.1.1.2 e.1.2.1) Spec.none))
theorem parse_parser_must_σok (n : Nat) : SpecOk Try.prog (parse_parser_must_σ n) := (inst_ok (fun x e y h => parse_parser_pass_c n x.2.1 e.1.1.1 e.1.1.2 e.1.2.1 y h) (inst_ok (fun x e y h => parse_parser_fail_c n x.2.1 e.1.1.1 e.1.1.2 e.1.2.1 y h) (SpecOk.none _)))
noncomputable def parse_parser_must_Φ (n : Nat) : Orc := with_ Try.prog (parse_parser_must_σ n) [] n 0 []
noncomputable def parse_parser_must_v (n : Nat) (s0 : ByteArray) (b1 : Bool) (r2 : Rows) (j3 : Int) : Option (Bool × Unit × (Int × Int × Unit) × ((Bool × Rows) × Int × Unit) × Unit) :=
  DM.denFn tm (parse_parser_must_Φ n) parse_parser_must_lv n Try.f56 false [AV.pl 1000 0, AV.dv (DV.val (Value.string s0))] [[AV.sl b1 [Kd.i IntKind.i64, Kd.s, Kd.i IntKind.i64, Kd.i IntKind.i64] r2 Right.no, AV.dv (DV.val (Value.int IntKind.i64 j3))]] (OSh.chk (OSh.pan (.tup []) (.ifc 53 (.agg [.i IntKind.i64, .i IntKind.i64])) [[.sl [Kd.i IntKind.i64, Kd.s, Kd.i IntKind.i64, Kd.i IntKind.i64], .i IntKind.i64]]))
theorem parse_parser_must_e (n : Nat) (s0 : ByteArray) (b1 : Bool) (r2 : Rows) (j3 : Int) : parse_parser_must_v n s0 b1 r2 j3 =
  obind (parse_parser_pass_v n s0 b1 r2 j3) fun y4 =>
  bif !y4.fst then
    obind (parse_parser_fail_v n 80 y4.snd.fst.fst.fst y4.snd.fst.fst.snd y4.snd.fst.snd.fst) fun y5 =>
    bif y5.fst then
      some (true, Sh.dflt (.tup []), (y5.snd.snd.fst.fst, (y5.snd.snd.fst.snd.fst, ())), (((y5.snd.snd.snd.fst.fst.fst, y5.snd.snd.snd.fst.fst.snd), (y5.snd.snd.snd.fst.snd.fst, ())), ()))
    else some (false, (), Sh.dflt (.ifc 53 (.agg [.i IntKind.i64, .i IntKind.i64])), (((y5.snd.snd.snd.fst.fst.fst, y5.snd.snd.snd.fst.fst.snd), (y5.snd.snd.snd.fst.snd.fst, ())), ()))
  else some (false, (), Sh.dflt (.ifc 53 (.agg [.i IntKind.i64, .i IntKind.i64])), (((y4.snd.fst.fst.fst, y4.snd.fst.fst.snd), (y4.snd.fst.snd.fst, ())), ())) := by kernel_rfl
theorem parse_parser_must_c (n : Nat) (s0 : ByteArray) (b1 : Bool) (r2 : Rows) (j3 : Int) (y : Bool × Unit × (Int × Int × Unit) × ((Bool × Rows) × Int × Unit) × Unit) (h : parse_parser_must_v n s0 b1 r2 j3 = some y) : Contract Try.prog 56 [AV.pl 1000 0, AV.dv (DV.val (Value.string s0))] [[AV.sl b1 [Kd.i IntKind.i64, Kd.s, Kd.i IntKind.i64, Kd.i IntKind.i64] r2 Right.no, AV.dv (DV.val (Value.int IntKind.i64 j3))]] (OSh.enc (OSh.pan (.tup []) (.ifc 53 (.agg [.i IntKind.i64, .i IntKind.i64])) [[.sl [Kd.i IntKind.i64, Kd.s, Kd.i IntKind.i64, Kd.i IntKind.i64], .i IntKind.i64]]) y) :=
  auto_okM tm_std (with_ok mixed (by kernel_rfl) (parse_parser_must_σok n) n 0 []) (with_pick mixed (by kernel_rfl) (parse_parser_must_σok n) n 0 []) mixed Try.func56 (by decide) (o := (OSh.pan (.tup []) (.ifc 53 (.agg [.i IntKind.i64, .i IntKind.i64])) [[.sl [Kd.i IntKind.i64, Kd.s, Kd.i IntKind.i64, Kd.i IntKind.i64], .i IntKind.i64]])) h
/-! parse_parser_word: function 57 -/
def parse_parser_word_lv : Live := []
noncomputable def parse_parser_word_σ (n : Nat) : Spec := (inst 53 [.pl 1000 0] [[.sl [Kd.i IntKind.i64, Kd.s, Kd.i IntKind.i64, Kd.i IntKind.i64], .i IntKind.i64]] (OSh.plain (.agg [.i IntKind.i64, .s, .i IntKind.i64, .i IntKind.i64]) [[.sl [Kd.i IntKind.i64, Kd.s, Kd.i IntKind.i64, Kd.i IntKind.i64], .i IntKind.i64]]) (fun x e => parse_parser_next_v n e.1.1.1 e.1.1.2 e.1.2.1) (inst 36 [.pl 1000 0, .i IntKind.i64] [[.sl [Kd.i IntKind.i64, Kd.s, Kd.i IntKind.i64, Kd.i IntKind.i64], .i IntKind.i64]] (OSh.pan (.junk) (.ifc 53 (.agg [.i IntKind.i64, .i IntKind.i64])) [[.sl [Kd.i IntKind.i64, Kd.s, Kd.i IntKind.i64, Kd.i IntKind.i64], .i IntKind.i64]]) (fun x e => parse_parser_fail_v n x.2.1 e.1.1.1 e.1.1.2 e.1.2.1) (inst 54 [.s] [] (OSh.plain (.b) []) (fun x e => parse_kept_v n x.1) Spec.none)))
theorem parse_parser_word_σok (n : Nat) : SpecOk Try.prog (parse_parser_word_σ n) := (inst_ok (fun x e y h => parse_parser_next_c n e.1.1.1 e.1.1.2 e.1.2.1 y h) (inst_ok (fun x e y h => parse_parser_fail_c n x.2.1 e.1.1.1 e.1.1.2 e.1.2.1 y h) (inst_ok (fun x e y h => parse_kept_c n x.1 y h) (SpecOk.none _))))
noncomputable def parse_parser_word_Φ (n : Nat) : Orc := with_ Try.prog (parse_parser_word_σ n) [] n 0 []
noncomputable def parse_parser_word_v (n : Nat) (b0 : Bool) (r1 : Rows) (j2 : Int) : Option (Bool × ByteArray × (Int × Int × Unit) × ((Bool × Rows) × Int × Unit) × Unit) :=
  DM.denFn tm (parse_parser_word_Φ n) parse_parser_word_lv n Try.f57 false [AV.pl 1000 0] [[AV.sl b0 [Kd.i IntKind.i64, Kd.s, Kd.i IntKind.i64, Kd.i IntKind.i64] r1 Right.no, AV.dv (DV.val (Value.int IntKind.i64 j2))]] (OSh.chk (OSh.pan (.s) (.ifc 53 (.agg [.i IntKind.i64, .i IntKind.i64])) [[.sl [Kd.i IntKind.i64, Kd.s, Kd.i IntKind.i64, Kd.i IntKind.i64], .i IntKind.i64]]))
theorem parse_parser_word_e (n : Nat) (b0 : Bool) (r1 : Rows) (j2 : Int) : parse_parser_word_v n b0 r1 j2 =
  obind (parse_parser_next_v n b0 r1 j2) fun y3 =>
  bif y3.fst.fst != 1 then
    obind (parse_parser_fail_v n 80 y3.snd.fst.fst.fst y3.snd.fst.fst.snd y3.snd.fst.snd.fst) fun y4 =>
    bif y4.fst then
      some (true, Sh.dflt (.s), (y4.snd.snd.fst.fst, (y4.snd.snd.fst.snd.fst, ())), (((y4.snd.snd.snd.fst.fst.fst, y4.snd.snd.snd.fst.fst.snd), (y4.snd.snd.snd.fst.snd.fst, ())), ()))
    else if 1 ≤ (↑(List.length y4.snd.snd.snd.fst.fst.snd) : Int) then
      if (↑(List.length y4.snd.snd.snd.fst.fst.snd) : Int) ≤ (↑(List.length y4.snd.snd.snd.fst.fst.snd) : Int) then
        some (false, y3.fst.snd.fst, Sh.dflt (.ifc 53 (.agg [.i IntKind.i64, .i IntKind.i64])), (((y4.snd.snd.snd.fst.fst.fst, List.drop 1 (List.take (Int.toNat (↑(List.length y4.snd.snd.snd.fst.fst.snd) : Int)) y4.snd.snd.snd.fst.fst.snd)), (y4.snd.snd.snd.fst.snd.fst, ())), ()))
      else none
    else none
  else obind (parse_kept_v n y3.fst.snd.fst) fun y5 =>
  bif y5.fst then
    obind (parse_parser_fail_v n 80 y3.snd.fst.fst.fst y3.snd.fst.fst.snd y3.snd.fst.snd.fst) fun y6 =>
    bif y6.fst then
      some (true, Sh.dflt (.s), (y6.snd.snd.fst.fst, (y6.snd.snd.fst.snd.fst, ())), (((y6.snd.snd.snd.fst.fst.fst, y6.snd.snd.snd.fst.fst.snd), (y6.snd.snd.snd.fst.snd.fst, ())), ()))
    else if 1 ≤ (↑(List.length y6.snd.snd.snd.fst.fst.snd) : Int) then
      if (↑(List.length y6.snd.snd.snd.fst.fst.snd) : Int) ≤ (↑(List.length y6.snd.snd.snd.fst.fst.snd) : Int) then
        some (false, y3.fst.snd.fst, Sh.dflt (.ifc 53 (.agg [.i IntKind.i64, .i IntKind.i64])), (((y6.snd.snd.snd.fst.fst.fst, List.drop 1 (List.take (Int.toNat (↑(List.length y6.snd.snd.snd.fst.fst.snd) : Int)) y6.snd.snd.snd.fst.fst.snd)), (y6.snd.snd.snd.fst.snd.fst, ())), ()))
      else none
    else none
  else if 1 ≤ (↑(List.length y3.snd.fst.fst.snd) : Int) then
    if (↑(List.length y3.snd.fst.fst.snd) : Int) ≤ (↑(List.length y3.snd.fst.fst.snd) : Int) then
      some (false, y3.fst.snd.fst, Sh.dflt (.ifc 53 (.agg [.i IntKind.i64, .i IntKind.i64])), (((y3.snd.fst.fst.fst, List.drop 1 (List.take (Int.toNat (↑(List.length y3.snd.fst.fst.snd) : Int)) y3.snd.fst.fst.snd)), (y3.snd.fst.snd.fst, ())), ()))
    else none
  else none := by kernel_rfl
theorem parse_parser_word_c (n : Nat) (b0 : Bool) (r1 : Rows) (j2 : Int) (y : Bool × ByteArray × (Int × Int × Unit) × ((Bool × Rows) × Int × Unit) × Unit) (h : parse_parser_word_v n b0 r1 j2 = some y) : Contract Try.prog 57 [AV.pl 1000 0] [[AV.sl b0 [Kd.i IntKind.i64, Kd.s, Kd.i IntKind.i64, Kd.i IntKind.i64] r1 Right.no, AV.dv (DV.val (Value.int IntKind.i64 j2))]] (OSh.enc (OSh.pan (.s) (.ifc 53 (.agg [.i IntKind.i64, .i IntKind.i64])) [[.sl [Kd.i IntKind.i64, Kd.s, Kd.i IntKind.i64, Kd.i IntKind.i64], .i IntKind.i64]]) y) :=
  auto_okM tm_std (with_ok mixed (by kernel_rfl) (parse_parser_word_σok n) n 0 []) (with_pick mixed (by kernel_rfl) (parse_parser_word_σok n) n 0 []) mixed Try.func57 (by decide) (o := (OSh.pan (.s) (.ifc 53 (.agg [.i IntKind.i64, .i IntKind.i64])) [[.sl [Kd.i IntKind.i64, Kd.s, Kd.i IntKind.i64, Kd.i IntKind.i64], .i IntKind.i64]])) h
/-! parse_parser_args: function 58 -/
def parse_parser_args_lv : Live := [(5, [0, 3], [1000, 1001, 1002, 1003])]
noncomputable def parse_parser_args_σ (n : Nat) : Spec := (inst 56 [.pl 1000 0, .s] [[.sl [Kd.i IntKind.i64, Kd.s, Kd.i IntKind.i64, Kd.i IntKind.i64], .i IntKind.i64]] (OSh.pan (.tup []) (.ifc 53 (.agg [.i IntKind.i64, .i IntKind.i64])) [[.sl [Kd.i IntKind.i64, Kd.s, Kd.i IntKind.i64, Kd.i IntKind.i64], .i IntKind.i64]]) (fun x e => parse_parser_must_v n x.2.1 e.1.1.1 e.1.1.2 e.1.2.1) (inst 59 [.pl 1000 0, .s] [[.sl [Kd.i IntKind.i64, Kd.s, Kd.i IntKind.i64, Kd.i IntKind.i64], .i IntKind.i64]] (OSh.plain (.b) [[.sl [Kd.i IntKind.i64, Kd.s, Kd.i IntKind.i64, Kd.i IntKind.i64], .i IntKind.i64]]) (fun x e => parse_parser_pass_v n x.2.1 e.1.1.1 e.1.1.2 e.1.2.1) (inst 35 [.pl 1000 0] [[.sl [Kd.i IntKind.i64, Kd.s, Kd.i IntKind.i64, Kd.i IntKind.i64], .i IntKind.i64]] (OSh.plain (.b) [[.sl [Kd.i IntKind.i64, Kd.s, Kd.i IntKind.i64, Kd.i IntKind.i64], .i IntKind.i64]]) (fun x e => parse_parser_begins_v n e.1.1.1 e.1.1.2 e.1.2.1) (inst 55 [.pl 1000 0] [[.sl [Kd.i IntKind.i64, Kd.s, Kd.i IntKind.i64, Kd.i IntKind.i64], .i IntKind.i64]] (OSh.pan (.agg [.s, .b, .i IntKind.i64, .s]) (.ifc 53 (.agg [.i IntKind.i64, .i IntKind.i64])) [[.sl [Kd.i IntKind.i64, Kd.s, Kd.i IntKind.i64, Kd.i IntKind.i64], .i IntKind.i64]]) (fun x e => parse_parser_term_v n e.1.1.1 e.1.1.2 e.1.2.1) (inst 36 [.pl 1000 0, .i IntKind.i64] [[.sl [Kd.i IntKind.i64, Kd.s, Kd.i IntKind.i64, Kd.i IntKind.i64], .i IntKind.i64]] (OSh.pan (.junk) (.ifc 53 (.agg [.i IntKind.i64, .i IntKind.i64])) [[.sl [Kd.i IntKind.i64, Kd.s, Kd.i IntKind.i64, Kd.i IntKind.i64], .i IntKind.i64]]) (fun x e => parse_parser_fail_v n x.2.1 e.1.1.1 e.1.1.2 e.1.2.1) Spec.none)))))
theorem parse_parser_args_σok (n : Nat) : SpecOk Try.prog (parse_parser_args_σ n) := (inst_ok (fun x e y h => parse_parser_must_c n x.2.1 e.1.1.1 e.1.1.2 e.1.2.1 y h) (inst_ok (fun x e y h => parse_parser_pass_c n x.2.1 e.1.1.1 e.1.1.2 e.1.2.1 y h) (inst_ok (fun x e y h => parse_parser_begins_c n e.1.1.1 e.1.1.2 e.1.2.1 y h) (inst_ok (fun x e y h => parse_parser_term_c n e.1.1.1 e.1.1.2 e.1.2.1 y h) (inst_ok (fun x e y h => parse_parser_fail_c n x.2.1 e.1.1.1 e.1.1.2 e.1.2.1 y h) (SpecOk.none _))))))
noncomputable def parse_parser_args_Φ (n : Nat) : Orc := with_ Try.prog (parse_parser_args_σ n) [] n 0 []
noncomputable def parse_parser_args_v (n : Nat) (b0 : Bool) (r1 : Rows) (j2 : Int) : Option (Bool × (Bool × Rows) × (Int × Int × Unit) × ((Bool × Rows) × Int × Unit) × Unit) :=
  DM.denFn tm (parse_parser_args_Φ n) parse_parser_args_lv n Try.f58 true [AV.pl 1000 0] [[AV.sl b0 [Kd.i IntKind.i64, Kd.s, Kd.i IntKind.i64, Kd.i IntKind.i64] r1 Right.no, AV.dv (DV.val (Value.int IntKind.i64 j2))]] (OSh.chk (OSh.pan (.slt [Kd.s, Kd.b, Kd.i IntKind.i64, Kd.s] 0) (.ifc 53 (.agg [.i IntKind.i64, .i IntKind.i64])) [[.sl [Kd.i IntKind.i64, Kd.s, Kd.i IntKind.i64, Kd.i IntKind.i64], .i IntKind.i64]]))
noncomputable def parse_parser_args_l5 (n : Nat) (b0 : Bool) (r1 : Rows) (j2 : Int) (i0 : Nat) (b5 : Bool) (r6 : List (List DV)) (j7 : Int) (b15 : Bool) (r16 : List (List DV)) : Option (Bool × (Bool × Rows) × (Int × Int × Unit) × ((Bool × Rows) × Int × Unit) × Unit) :=
  DM.loopFn tm (parse_parser_args_Φ n) parse_parser_args_lv n Try.f58 true [[AV.sl b0 [Kd.i IntKind.i64, Kd.s, Kd.i IntKind.i64, Kd.i IntKind.i64] r1 Right.no, AV.dv (DV.val (Value.int IntKind.i64 j2))]] (OSh.chk (OSh.pan (.slt [Kd.s, Kd.b, Kd.i IntKind.i64, Kd.s] 0) (.ifc 53 (.agg [.i IntKind.i64, .i IntKind.i64])) [[.sl [Kd.i IntKind.i64, Kd.s, Kd.i IntKind.i64, Kd.i IntKind.i64], .i IntKind.i64]])) 5 [] i0 (St.mk [AV.pl 1000 0, AV.junk, AV.junk, AV.sl b15 [Kd.s, Kd.b, Kd.i IntKind.i64, Kd.s] r16 (Right.tok 3), AV.junk, AV.junk, AV.junk, AV.junk, AV.junk, AV.junk, AV.junk, AV.junk, AV.junk, AV.junk, AV.junk, AV.junk, AV.junk, AV.junk, AV.junk, AV.junk, AV.junk, AV.junk, AV.junk, AV.junk, AV.junk, AV.junk, AV.junk] [(1000, [AV.sl b5 [Kd.i IntKind.i64, Kd.s, Kd.i IntKind.i64, Kd.i IntKind.i64] r6 Right.no, AV.dv (DV.val (Value.int IntKind.i64 j7))])])
theorem parse_parser_args_s5 (n : Nat) (b0 : Bool) (r1 : Rows) (j2 : Int) (i0 : Nat) (b5 : Bool) (r6 : List (List DV)) (j7 : Int) (b15 : Bool) (r16 : List (List DV)) : parse_parser_args_l5 n b0 r1 j2 (i0 + 1) b5 r6 j7 b15 r16 =
  obind (parse_parser_begins_v n b5 r6 j7) fun y17 =>
  bif y17.fst then
    bif (↑(List.length r16) : Int) == 4 then
      obind (parse_parser_fail_v n 81 y17.snd.fst.fst.fst y17.snd.fst.fst.snd y17.snd.fst.snd.fst) fun y18 =>
      bif y18.fst then
        some (true, Sh.dflt (.slt [Kd.s, Kd.b, Kd.i IntKind.i64, Kd.s] 0), (y18.snd.snd.fst.fst, (y18.snd.snd.fst.snd.fst, ())), (((y18.snd.snd.snd.fst.fst.fst, y18.snd.snd.snd.fst.fst.snd), (y18.snd.snd.snd.fst.snd.fst, ())), ()))
      else obind (parse_parser_term_v n y18.snd.snd.snd.fst.fst.fst y18.snd.snd.snd.fst.fst.snd y18.snd.snd.snd.fst.snd.fst) fun y19 =>
      bif y19.fst then
        some (true, Sh.dflt (.slt [Kd.s, Kd.b, Kd.i IntKind.i64, Kd.s] 0), (y19.snd.snd.fst.fst, (y19.snd.snd.fst.snd.fst, ())), (((y19.snd.snd.snd.fst.fst.fst, y19.snd.snd.snd.fst.fst.snd), (y19.snd.snd.snd.fst.snd.fst, ())), ()))
      else if (List.length r16 + List.length [[DV.val (Value.string y19.snd.fst.fst), DV.val (Value.bool y19.snd.fst.snd.fst), DV.val (Value.int IntKind.i64 y19.snd.fst.snd.snd.fst), DV.val (Value.string y19.snd.fst.snd.snd.snd.fst)]]) * 48 ≤ 140737488355328 then
        obind (parse_parser_pass_v n (ByteArray.mk #[41]) y19.snd.snd.snd.fst.fst.fst y19.snd.snd.snd.fst.fst.snd y19.snd.snd.snd.fst.snd.fst) fun y20 =>
        bif y20.fst then
          some (false, (b15 && List.isEmpty [[DV.val (Value.string y19.snd.fst.fst), DV.val (Value.bool y19.snd.fst.snd.fst), DV.val (Value.int IntKind.i64 y19.snd.fst.snd.snd.fst), DV.val (Value.string y19.snd.fst.snd.snd.snd.fst)]], appX r16 [[DV.val (Value.string y19.snd.fst.fst), DV.val (Value.bool y19.snd.fst.snd.fst), DV.val (Value.int IntKind.i64 y19.snd.fst.snd.snd.fst), DV.val (Value.string y19.snd.fst.snd.snd.snd.fst)]]), Sh.dflt (.ifc 53 (.agg [.i IntKind.i64, .i IntKind.i64])), (((y20.snd.fst.fst.fst, y20.snd.fst.fst.snd), (y20.snd.fst.snd.fst, ())), ()))
        else obind (parse_parser_must_v n (ByteArray.mk #[44]) y20.snd.fst.fst.fst y20.snd.fst.fst.snd y20.snd.fst.snd.fst) fun y21 =>
        bif y21.fst then
          some (true, Sh.dflt (.slt [Kd.s, Kd.b, Kd.i IntKind.i64, Kd.s] 0), (y21.snd.snd.fst.fst, (y21.snd.snd.fst.snd.fst, ())), (((y21.snd.snd.snd.fst.fst.fst, y21.snd.snd.snd.fst.fst.snd), (y21.snd.snd.snd.fst.snd.fst, ())), ()))
        else parse_parser_args_l5 n b0 r1 j2 i0 y21.snd.snd.snd.fst.fst.fst y21.snd.snd.snd.fst.fst.snd y21.snd.snd.snd.fst.snd.fst (b15 && List.isEmpty [[DV.val (Value.string y19.snd.fst.fst), DV.val (Value.bool y19.snd.fst.snd.fst), DV.val (Value.int IntKind.i64 y19.snd.fst.snd.snd.fst), DV.val (Value.string y19.snd.fst.snd.snd.snd.fst)]]) (appX r16 [[DV.val (Value.string y19.snd.fst.fst), DV.val (Value.bool y19.snd.fst.snd.fst), DV.val (Value.int IntKind.i64 y19.snd.fst.snd.snd.fst), DV.val (Value.string y19.snd.fst.snd.snd.snd.fst)]])
      else none
    else obind (parse_parser_term_v n y17.snd.fst.fst.fst y17.snd.fst.fst.snd y17.snd.fst.snd.fst) fun y22 =>
    bif y22.fst then
      some (true, Sh.dflt (.slt [Kd.s, Kd.b, Kd.i IntKind.i64, Kd.s] 0), (y22.snd.snd.fst.fst, (y22.snd.snd.fst.snd.fst, ())), (((y22.snd.snd.snd.fst.fst.fst, y22.snd.snd.snd.fst.fst.snd), (y22.snd.snd.snd.fst.snd.fst, ())), ()))
    else if (List.length r16 + List.length [[DV.val (Value.string y22.snd.fst.fst), DV.val (Value.bool y22.snd.fst.snd.fst), DV.val (Value.int IntKind.i64 y22.snd.fst.snd.snd.fst), DV.val (Value.string y22.snd.fst.snd.snd.snd.fst)]]) * 48 ≤ 140737488355328 then
      obind (parse_parser_pass_v n (ByteArray.mk #[41]) y22.snd.snd.snd.fst.fst.fst y22.snd.snd.snd.fst.fst.snd y22.snd.snd.snd.fst.snd.fst) fun y23 =>
      bif y23.fst then
        some (false, (b15 && List.isEmpty [[DV.val (Value.string y22.snd.fst.fst), DV.val (Value.bool y22.snd.fst.snd.fst), DV.val (Value.int IntKind.i64 y22.snd.fst.snd.snd.fst), DV.val (Value.string y22.snd.fst.snd.snd.snd.fst)]], appX r16 [[DV.val (Value.string y22.snd.fst.fst), DV.val (Value.bool y22.snd.fst.snd.fst), DV.val (Value.int IntKind.i64 y22.snd.fst.snd.snd.fst), DV.val (Value.string y22.snd.fst.snd.snd.snd.fst)]]), Sh.dflt (.ifc 53 (.agg [.i IntKind.i64, .i IntKind.i64])), (((y23.snd.fst.fst.fst, y23.snd.fst.fst.snd), (y23.snd.fst.snd.fst, ())), ()))
      else obind (parse_parser_must_v n (ByteArray.mk #[44]) y23.snd.fst.fst.fst y23.snd.fst.fst.snd y23.snd.fst.snd.fst) fun y24 =>
      bif y24.fst then
        some (true, Sh.dflt (.slt [Kd.s, Kd.b, Kd.i IntKind.i64, Kd.s] 0), (y24.snd.snd.fst.fst, (y24.snd.snd.fst.snd.fst, ())), (((y24.snd.snd.snd.fst.fst.fst, y24.snd.snd.snd.fst.fst.snd), (y24.snd.snd.snd.fst.snd.fst, ())), ()))
      else parse_parser_args_l5 n b0 r1 j2 i0 y24.snd.snd.snd.fst.fst.fst y24.snd.snd.snd.fst.fst.snd y24.snd.snd.snd.fst.snd.fst (b15 && List.isEmpty [[DV.val (Value.string y22.snd.fst.fst), DV.val (Value.bool y22.snd.fst.snd.fst), DV.val (Value.int IntKind.i64 y22.snd.fst.snd.snd.fst), DV.val (Value.string y22.snd.fst.snd.snd.snd.fst)]]) (appX r16 [[DV.val (Value.string y22.snd.fst.fst), DV.val (Value.bool y22.snd.fst.snd.fst), DV.val (Value.int IntKind.i64 y22.snd.fst.snd.snd.fst), DV.val (Value.string y22.snd.fst.snd.snd.snd.fst)]])
    else none
  else obind (parse_parser_term_v n y17.snd.fst.fst.fst y17.snd.fst.fst.snd y17.snd.fst.snd.fst) fun y25 =>
  bif y25.fst then
    some (true, Sh.dflt (.slt [Kd.s, Kd.b, Kd.i IntKind.i64, Kd.s] 0), (y25.snd.snd.fst.fst, (y25.snd.snd.fst.snd.fst, ())), (((y25.snd.snd.snd.fst.fst.fst, y25.snd.snd.snd.fst.fst.snd), (y25.snd.snd.snd.fst.snd.fst, ())), ()))
  else if (List.length r16 + List.length [[DV.val (Value.string y25.snd.fst.fst), DV.val (Value.bool y25.snd.fst.snd.fst), DV.val (Value.int IntKind.i64 y25.snd.fst.snd.snd.fst), DV.val (Value.string y25.snd.fst.snd.snd.snd.fst)]]) * 48 ≤ 140737488355328 then
    obind (parse_parser_pass_v n (ByteArray.mk #[41]) y25.snd.snd.snd.fst.fst.fst y25.snd.snd.snd.fst.fst.snd y25.snd.snd.snd.fst.snd.fst) fun y26 =>
    bif y26.fst then
      some (false, (b15 && List.isEmpty [[DV.val (Value.string y25.snd.fst.fst), DV.val (Value.bool y25.snd.fst.snd.fst), DV.val (Value.int IntKind.i64 y25.snd.fst.snd.snd.fst), DV.val (Value.string y25.snd.fst.snd.snd.snd.fst)]], appX r16 [[DV.val (Value.string y25.snd.fst.fst), DV.val (Value.bool y25.snd.fst.snd.fst), DV.val (Value.int IntKind.i64 y25.snd.fst.snd.snd.fst), DV.val (Value.string y25.snd.fst.snd.snd.snd.fst)]]), Sh.dflt (.ifc 53 (.agg [.i IntKind.i64, .i IntKind.i64])), (((y26.snd.fst.fst.fst, y26.snd.fst.fst.snd), (y26.snd.fst.snd.fst, ())), ()))
    else obind (parse_parser_must_v n (ByteArray.mk #[44]) y26.snd.fst.fst.fst y26.snd.fst.fst.snd y26.snd.fst.snd.fst) fun y27 =>
    bif y27.fst then
      some (true, Sh.dflt (.slt [Kd.s, Kd.b, Kd.i IntKind.i64, Kd.s] 0), (y27.snd.snd.fst.fst, (y27.snd.snd.fst.snd.fst, ())), (((y27.snd.snd.snd.fst.fst.fst, y27.snd.snd.snd.fst.fst.snd), (y27.snd.snd.snd.fst.snd.fst, ())), ()))
    else parse_parser_args_l5 n b0 r1 j2 i0 y27.snd.snd.snd.fst.fst.fst y27.snd.snd.snd.fst.fst.snd y27.snd.snd.snd.fst.snd.fst (b15 && List.isEmpty [[DV.val (Value.string y25.snd.fst.fst), DV.val (Value.bool y25.snd.fst.snd.fst), DV.val (Value.int IntKind.i64 y25.snd.fst.snd.snd.fst), DV.val (Value.string y25.snd.fst.snd.snd.snd.fst)]]) (appX r16 [[DV.val (Value.string y25.snd.fst.fst), DV.val (Value.bool y25.snd.fst.snd.fst), DV.val (Value.int IntKind.i64 y25.snd.fst.snd.snd.fst), DV.val (Value.string y25.snd.fst.snd.snd.snd.fst)]])
  else none := by kernel_rfl
theorem parse_parser_args_e (n : Nat) (b0 : Bool) (r1 : Rows) (j2 : Int) : parse_parser_args_v n b0 r1 j2 =
  obind (parse_parser_must_v n (ByteArray.mk #[40]) b0 r1 j2) fun y3 =>
  bif y3.fst then
    some (true, Sh.dflt (.slt [Kd.s, Kd.b, Kd.i IntKind.i64, Kd.s] 0), (y3.snd.snd.fst.fst, (y3.snd.snd.fst.snd.fst, ())), (((y3.snd.snd.snd.fst.fst.fst, y3.snd.snd.snd.fst.fst.snd), (y3.snd.snd.snd.fst.snd.fst, ())), ()))
  else obind (parse_parser_pass_v n (ByteArray.mk #[41]) y3.snd.snd.snd.fst.fst.fst y3.snd.snd.snd.fst.fst.snd y3.snd.snd.snd.fst.snd.fst) fun y4 =>
  bif y4.fst then
    some (false, (true, []), Sh.dflt (.ifc 53 (.agg [.i IntKind.i64, .i IntKind.i64])), (((y4.snd.fst.fst.fst, y4.snd.fst.fst.snd), (y4.snd.fst.snd.fst, ())), ()))
  else parse_parser_args_l5 n b0 r1 j2 n y4.snd.fst.fst.fst y4.snd.fst.fst.snd y4.snd.fst.snd.fst true [] := by kernel_rfl
theorem parse_parser_args_c (n : Nat) (b0 : Bool) (r1 : Rows) (j2 : Int) (y : Bool × (Bool × Rows) × (Int × Int × Unit) × ((Bool × Rows) × Int × Unit) × Unit) (h : parse_parser_args_v n b0 r1 j2 = some y) : Contract Try.prog 58 [AV.pl 1000 0] [[AV.sl b0 [Kd.i IntKind.i64, Kd.s, Kd.i IntKind.i64, Kd.i IntKind.i64] r1 Right.no, AV.dv (DV.val (Value.int IntKind.i64 j2))]] (OSh.enc (OSh.pan (.slt [Kd.s, Kd.b, Kd.i IntKind.i64, Kd.s] 0) (.ifc 53 (.agg [.i IntKind.i64, .i IntKind.i64])) [[.sl [Kd.i IntKind.i64, Kd.s, Kd.i IntKind.i64, Kd.i IntKind.i64], .i IntKind.i64]]) y) :=
  auto_okM tm_std (with_ok mixed (by kernel_rfl) (parse_parser_args_σok n) n 0 []) (with_pick mixed (by kernel_rfl) (parse_parser_args_σok n) n 0 []) mixed Try.func58 (by decide) (o := (OSh.pan (.slt [Kd.s, Kd.b, Kd.i IntKind.i64, Kd.s] 0) (.ifc 53 (.agg [.i IntKind.i64, .i IntKind.i64])) [[.sl [Kd.i IntKind.i64, Kd.s, Kd.i IntKind.i64, Kd.i IntKind.i64], .i IntKind.i64]])) h
end Go.Den
