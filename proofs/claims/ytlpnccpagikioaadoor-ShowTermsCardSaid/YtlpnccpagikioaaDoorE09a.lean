import Derived.Test.YtlpnccpagikioaaDoorMemo09
set_option linter.unusedVariables false
set_option linter.unusedSimpArgs false
set_option linter.unusedSectionVars false
namespace Go.Den
open Go.Proofs
set_option maxRecDepth 100000
/-! lex_blank: function 91 -/
def lex_blank_lv : Live := []
noncomputable def lex_blank_σ (n : Nat) : Spec := Spec.none
theorem lex_blank_σok (n : Nat) : SpecOk Tryd.prog (lex_blank_σ n) := (SpecOk.none _)
noncomputable def lex_blank_Φ (n : Nat) : Orc := with_ Tryd.prog (lex_blank_σ n) [] n 0 []
noncomputable def lex_blank_v (n : Nat) (j0 : Int) : Option (Bool × Unit) :=
  DM.denFn tm (lex_blank_Φ n) lex_blank_lv n Tryd.f91 false [AV.dv (DV.val (Value.int IntKind.u8 j0))] [] (OSh.chk (OSh.plain (.b) []))
theorem lex_blank_e (n : Nat) (j0 : Int) : lex_blank_v n j0 =
  bif j0 == 32 then
    some (true, ())
  else bif j0 == 9 then
    some (true, ())
  else bif j0 == 10 then
    some (true, ())
  else some (j0 == 13, ()) := by kernel_rfl
theorem lex_blank_c (n : Nat) (j0 : Int) (y : Bool × Unit) (h : lex_blank_v n j0 = some y) : Contract Tryd.prog 91 [AV.dv (DV.val (Value.int IntKind.u8 j0))] [] (OSh.enc (OSh.plain (.b) []) y) :=
  auto_okM tm_std (with_ok mixed (by kernel_rfl) (lex_blank_σok n) n 0 []) (with_pick mixed (by kernel_rfl) (lex_blank_σok n) n 0 []) mixed Tryd.func91 (by decide) (o := (OSh.plain (.b) [])) h
/-! lex_over: function 92 -/
def lex_over_lex_blank_lv : Live := [(1, [0, 1, 2], [1000, 1001, 1002, 1003])]
noncomputable def lex_over_lex_blank_σ (n : Nat) : Spec := (inst 91 [.i IntKind.u8] [] (OSh.plain (.b) []) (fun x e => lex_blank_v n x.1) Spec.none)
theorem lex_over_lex_blank_σok (n : Nat) : SpecOk Tryd.prog (lex_over_lex_blank_σ n) := (inst_ok (fun x e y h => lex_blank_c n x.1 y h) (SpecOk.none _))
noncomputable def lex_over_lex_blank_Φ (n : Nat) : Orc := with_ Tryd.prog (lex_over_lex_blank_σ n) [] n 0 []
noncomputable def lex_over_lex_blank_v (n : Nat) (s0 : ByteArray) (j1 : Int) : Option (Int × Unit) :=
  DM.denFn tm (lex_over_lex_blank_Φ n) lex_over_lex_blank_lv n Tryd.f92 false [AV.dv (DV.val (Value.string s0)), AV.dv (DV.val (Value.int IntKind.i64 j1)), AV.fn 91 []] [] (OSh.chk (OSh.plain (.i IntKind.i64) []))
noncomputable def lex_over_lex_blank_l1 (n : Nat) (s0 : ByteArray) (j1 : Int) (i0 : Nat) (j3 : Int) : Option (Int × Unit) :=
  DM.loopFn tm (lex_over_lex_blank_Φ n) lex_over_lex_blank_lv n Tryd.f92 false [] (OSh.chk (OSh.plain (.i IntKind.i64) [])) 1 [] i0 (St.mk [AV.dv (DV.val (Value.string s0)), AV.dv (DV.val (Value.int IntKind.i64 j3)), AV.fn 91 [], AV.junk, AV.junk, AV.junk, AV.junk, AV.junk, AV.junk, AV.junk, AV.junk, AV.junk, AV.junk, AV.junk, AV.junk, AV.junk, AV.junk, AV.junk, AV.junk, AV.junk, AV.junk] [])
theorem lex_over_lex_blank_s1 (n : Nat) (s0 : ByteArray) (j1 : Int) (i0 : Nat) (j3 : Int) : lex_over_lex_blank_l1 n s0 j1 (i0 + 1) j3 =
  bif decide (j3 < (↑(ByteArray.size s0) : Int)) then
    if 0 ≤ j3 then
      if j3 < (↑(ByteArray.size s0) : Int) then
        obind (lex_blank_v n (bt s0 j3)) fun y4 =>
        bif y4.fst then
          lex_over_lex_blank_l1 n s0 j1 i0 (IntKind.wrap IntKind.i64 (j3 + 1))
        else some (j3, ())
      else none
    else none
  else some (j3, ()) := by kernel_rfl
theorem lex_over_lex_blank_e (n : Nat) (s0 : ByteArray) (j1 : Int) : lex_over_lex_blank_v n s0 j1 =
  lex_over_lex_blank_l1 n s0 j1 n j1 := by kernel_rfl
theorem lex_over_lex_blank_c (n : Nat) (s0 : ByteArray) (j1 : Int) (y : Int × Unit) (h : lex_over_lex_blank_v n s0 j1 = some y) : Contract Tryd.prog 92 [AV.dv (DV.val (Value.string s0)), AV.dv (DV.val (Value.int IntKind.i64 j1)), AV.fn 91 []] [] (OSh.enc (OSh.plain (.i IntKind.i64) []) y) :=
  auto_okM tm_std (with_ok mixed (by kernel_rfl) (lex_over_lex_blank_σok n) n 0 []) (with_pick mixed (by kernel_rfl) (lex_over_lex_blank_σok n) n 0 []) mixed Tryd.func92 (by decide) (o := (OSh.plain (.i IntKind.i64) [])) h
/-! lex_skip_1: function 93 -/
def lex_skip_1_lv : Live := []
noncomputable def lex_skip_1_σ (n : Nat) : Spec := Spec.none
theorem lex_skip_1_σok (n : Nat) : SpecOk Tryd.prog (lex_skip_1_σ n) := (SpecOk.none _)
noncomputable def lex_skip_1_Φ (n : Nat) : Orc := with_ Tryd.prog (lex_skip_1_σ n) [] n 0 []
noncomputable def lex_skip_1_v (n : Nat) (j0 : Int) : Option (Bool × Unit) :=
  DM.denFn tm (lex_skip_1_Φ n) lex_skip_1_lv n Tryd.f93 false [AV.dv (DV.val (Value.int IntKind.u8 j0))] [] (OSh.chk (OSh.plain (.b) []))
theorem lex_skip_1_e (n : Nat) (j0 : Int) : lex_skip_1_v n j0 =
  some (j0 != 10, ()) := by kernel_rfl
theorem lex_skip_1_c (n : Nat) (j0 : Int) (y : Bool × Unit) (h : lex_skip_1_v n j0 = some y) : Contract Tryd.prog 93 [AV.dv (DV.val (Value.int IntKind.u8 j0))] [] (OSh.enc (OSh.plain (.b) []) y) :=
  auto_okM tm_std (with_ok mixed (by kernel_rfl) (lex_skip_1_σok n) n 0 []) (with_pick mixed (by kernel_rfl) (lex_skip_1_σok n) n 0 []) mixed Tryd.func93 (by decide) (o := (OSh.plain (.b) [])) h
/-! lex_over: function 92 -/
def lex_over_lex_skip_1_lv : Live := [(1, [0, 1, 2], [1000, 1001, 1002, 1003])]
noncomputable def lex_over_lex_skip_1_σ (n : Nat) : Spec := (inst 93 [.i IntKind.u8] [] (OSh.plain (.b) []) (fun x e => lex_skip_1_v n x.1) Spec.none)
theorem lex_over_lex_skip_1_σok (n : Nat) : SpecOk Tryd.prog (lex_over_lex_skip_1_σ n) := (inst_ok (fun x e y h => lex_skip_1_c n x.1 y h) (SpecOk.none _))
noncomputable def lex_over_lex_skip_1_Φ (n : Nat) : Orc := with_ Tryd.prog (lex_over_lex_skip_1_σ n) [] n 0 []
noncomputable def lex_over_lex_skip_1_v (n : Nat) (s0 : ByteArray) (j1 : Int) : Option (Int × Unit) :=
  DM.denFn tm (lex_over_lex_skip_1_Φ n) lex_over_lex_skip_1_lv n Tryd.f92 false [AV.dv (DV.val (Value.string s0)), AV.dv (DV.val (Value.int IntKind.i64 j1)), AV.fn 93 []] [] (OSh.chk (OSh.plain (.i IntKind.i64) []))
noncomputable def lex_over_lex_skip_1_l1 (n : Nat) (s0 : ByteArray) (j1 : Int) (i0 : Nat) (j3 : Int) : Option (Int × Unit) :=
  DM.loopFn tm (lex_over_lex_skip_1_Φ n) lex_over_lex_skip_1_lv n Tryd.f92 false [] (OSh.chk (OSh.plain (.i IntKind.i64) [])) 1 [] i0 (St.mk [AV.dv (DV.val (Value.string s0)), AV.dv (DV.val (Value.int IntKind.i64 j3)), AV.fn 93 [], AV.junk, AV.junk, AV.junk, AV.junk, AV.junk, AV.junk, AV.junk, AV.junk, AV.junk, AV.junk, AV.junk, AV.junk, AV.junk, AV.junk, AV.junk, AV.junk, AV.junk, AV.junk] [])
theorem lex_over_lex_skip_1_s1 (n : Nat) (s0 : ByteArray) (j1 : Int) (i0 : Nat) (j3 : Int) : lex_over_lex_skip_1_l1 n s0 j1 (i0 + 1) j3 =
  bif decide (j3 < (↑(ByteArray.size s0) : Int)) then
    if 0 ≤ j3 then
      if j3 < (↑(ByteArray.size s0) : Int) then
        obind (lex_skip_1_v n (bt s0 j3)) fun y4 =>
        bif y4.fst then
          lex_over_lex_skip_1_l1 n s0 j1 i0 (IntKind.wrap IntKind.i64 (j3 + 1))
        else some (j3, ())
      else none
    else none
  else some (j3, ()) := by kernel_rfl
theorem lex_over_lex_skip_1_e (n : Nat) (s0 : ByteArray) (j1 : Int) : lex_over_lex_skip_1_v n s0 j1 =
  lex_over_lex_skip_1_l1 n s0 j1 n j1 := by kernel_rfl
theorem lex_over_lex_skip_1_c (n : Nat) (s0 : ByteArray) (j1 : Int) (y : Int × Unit) (h : lex_over_lex_skip_1_v n s0 j1 = some y) : Contract Tryd.prog 92 [AV.dv (DV.val (Value.string s0)), AV.dv (DV.val (Value.int IntKind.i64 j1)), AV.fn 93 []] [] (OSh.enc (OSh.plain (.i IntKind.i64) []) y) :=
  auto_okM tm_std (with_ok mixed (by kernel_rfl) (lex_over_lex_skip_1_σok n) n 0 []) (with_pick mixed (by kernel_rfl) (lex_over_lex_skip_1_σok n) n 0 []) mixed Tryd.func92 (by decide) (o := (OSh.plain (.i IntKind.i64) [])) h
/-! lex_skip: function 69 -/
def lex_skip_lv : Live := [(1, [0, 1], [1000, 1001, 1002, 1003])]
noncomputable def lex_skip_σ (n : Nat) : Spec := (inst 91 [.i IntKind.u8] [] (OSh.plain (.b) []) (fun x e => lex_blank_v n x.1) (inst 92 [.s, .i IntKind.i64, .fn 91 []] [] (OSh.plain (.i IntKind.i64) []) (fun x e => lex_over_lex_blank_v n x.1 x.2.1) (inst 92 [.s, .i IntKind.i64, .fn 93 []] [] (OSh.plain (.i IntKind.i64) []) (fun x e => lex_over_lex_skip_1_v n x.1 x.2.1) Spec.none)))
theorem lex_skip_σok (n : Nat) : SpecOk Tryd.prog (lex_skip_σ n) := (inst_ok (fun x e y h => lex_blank_c n x.1 y h) (inst_ok (fun x e y h => lex_over_lex_blank_c n x.1 x.2.1 y h) (inst_ok (fun x e y h => lex_over_lex_skip_1_c n x.1 x.2.1 y h) (SpecOk.none _))))
noncomputable def lex_skip_Φ (n : Nat) : Orc := with_ Tryd.prog (lex_skip_σ n) [] n 0 []
noncomputable def lex_skip_v (n : Nat) (s0 : ByteArray) (j1 : Int) : Option (Int × Unit) :=
  DM.denFn tm (lex_skip_Φ n) lex_skip_lv n Tryd.f69 false [AV.dv (DV.val (Value.string s0)), AV.dv (DV.val (Value.int IntKind.i64 j1))] [] (OSh.chk (OSh.plain (.i IntKind.i64) []))
noncomputable def lex_skip_l1 (n : Nat) (s0 : ByteArray) (j1 : Int) (i0 : Nat) (j5 : Int) : Option (Int × Unit) :=
  DM.loopFn tm (lex_skip_Φ n) lex_skip_lv n Tryd.f69 false [] (OSh.chk (OSh.plain (.i IntKind.i64) [])) 1 [] i0 (St.mk [AV.dv (DV.val (Value.string s0)), AV.dv (DV.val (Value.int IntKind.i64 j5)), AV.junk, AV.junk, AV.junk, AV.junk, AV.junk, AV.junk, AV.junk, AV.junk, AV.junk, AV.junk, AV.junk, AV.junk, AV.junk, AV.junk, AV.junk, AV.junk, AV.junk, AV.junk, AV.junk, AV.junk, AV.junk, AV.junk, AV.junk, AV.junk] [])
theorem lex_skip_s1 (n : Nat) (s0 : ByteArray) (j1 : Int) (i0 : Nat) (j5 : Int) : lex_skip_l1 n s0 j1 (i0 + 1) j5 =
  bif decide (j5 < (↑(ByteArray.size s0) : Int)) then
    if 0 ≤ j5 then
      if j5 < (↑(ByteArray.size s0) : Int) then
        obind (lex_blank_v n (bt s0 j5)) fun y6 =>
        bif y6.fst then
          obind (lex_over_lex_blank_v n s0 j5) fun y7 =>
          lex_skip_l1 n s0 j1 i0 y7.fst
        else if 0 ≤ j5 then
          if j5 < (↑(ByteArray.size s0) : Int) then
            bif bt s0 j5 == 37 then
              obind (lex_over_lex_skip_1_v n s0 j5) fun y8 =>
              lex_skip_l1 n s0 j1 i0 y8.fst
            else some (j5, ())
          else none
        else none
      else none
    else none
  else some (j5, ()) := by kernel_rfl
theorem lex_skip_e (n : Nat) (s0 : ByteArray) (j1 : Int) : lex_skip_v n s0 j1 =
  lex_skip_l1 n s0 j1 n j1 := by kernel_rfl
theorem lex_skip_c (n : Nat) (s0 : ByteArray) (j1 : Int) (y : Int × Unit) (h : lex_skip_v n s0 j1 = some y) : Contract Tryd.prog 69 [AV.dv (DV.val (Value.string s0)), AV.dv (DV.val (Value.int IntKind.i64 j1))] [] (OSh.enc (OSh.plain (.i IntKind.i64) []) y) :=
  auto_okM tm_std (with_ok mixed (by kernel_rfl) (lex_skip_σok n) n 0 []) (with_pick mixed (by kernel_rfl) (lex_skip_σok n) n 0 []) mixed Tryd.func69 (by decide) (o := (OSh.plain (.i IntKind.i64) [])) h
/-! lex_small: function 95 -/
def lex_small_lv : Live := []
noncomputable def lex_small_σ (n : Nat) : Spec := Spec.none
theorem lex_small_σok (n : Nat) : SpecOk Tryd.prog (lex_small_σ n) := (SpecOk.none _)
noncomputable def lex_small_Φ (n : Nat) : Orc := with_ Tryd.prog (lex_small_σ n) [] n 0 []
noncomputable def lex_small_v (n : Nat) (j0 : Int) : Option (Bool × Unit) :=
  DM.denFn tm (lex_small_Φ n) lex_small_lv n Tryd.f95 false [AV.dv (DV.val (Value.int IntKind.u8 j0))] [] (OSh.chk (OSh.plain (.b) []))
theorem lex_small_e (n : Nat) (j0 : Int) : lex_small_v n j0 =
  bif decide (j0 ≥ 97) then
    some (decide (j0 ≤ 122), ())
  else some (false, ()) := by kernel_rfl
theorem lex_small_c (n : Nat) (j0 : Int) (y : Bool × Unit) (h : lex_small_v n j0 = some y) : Contract Tryd.prog 95 [AV.dv (DV.val (Value.int IntKind.u8 j0))] [] (OSh.enc (OSh.plain (.b) []) y) :=
  auto_okM tm_std (with_ok mixed (by kernel_rfl) (lex_small_σok n) n 0 []) (with_pick mixed (by kernel_rfl) (lex_small_σok n) n 0 []) mixed Tryd.func95 (by decide) (o := (OSh.plain (.b) [])) h
/-! lex_great: function 96 -/
def lex_great_lv : Live := []
noncomputable def lex_great_σ (n : Nat) : Spec := Spec.none
theorem lex_great_σok (n : Nat) : SpecOk Tryd.prog (lex_great_σ n) := (SpecOk.none _)
noncomputable def lex_great_Φ (n : Nat) : Orc := with_ Tryd.prog (lex_great_σ n) [] n 0 []
noncomputable def lex_great_v (n : Nat) (j0 : Int) : Option (Bool × Unit) :=
  DM.denFn tm (lex_great_Φ n) lex_great_lv n Tryd.f96 false [AV.dv (DV.val (Value.int IntKind.u8 j0))] [] (OSh.chk (OSh.plain (.b) []))
theorem lex_great_e (n : Nat) (j0 : Int) : lex_great_v n j0 =
  bif decide (j0 ≥ 65) then
    some (decide (j0 ≤ 90), ())
  else some (false, ()) := by kernel_rfl
theorem lex_great_c (n : Nat) (j0 : Int) (y : Bool × Unit) (h : lex_great_v n j0 = some y) : Contract Tryd.prog 96 [AV.dv (DV.val (Value.int IntKind.u8 j0))] [] (OSh.enc (OSh.plain (.b) []) y) :=
  auto_okM tm_std (with_ok mixed (by kernel_rfl) (lex_great_σok n) n 0 []) (with_pick mixed (by kernel_rfl) (lex_great_σok n) n 0 []) mixed Tryd.func96 (by decide) (o := (OSh.plain (.b) [])) h
/-! lex_digit: function 97 -/
def lex_digit_lv : Live := []
noncomputable def lex_digit_σ (n : Nat) : Spec := Spec.none
theorem lex_digit_σok (n : Nat) : SpecOk Tryd.prog (lex_digit_σ n) := (SpecOk.none _)
noncomputable def lex_digit_Φ (n : Nat) : Orc := with_ Tryd.prog (lex_digit_σ n) [] n 0 []
noncomputable def lex_digit_v (n : Nat) (j0 : Int) : Option (Bool × Unit) :=
  DM.denFn tm (lex_digit_Φ n) lex_digit_lv n Tryd.f97 false [AV.dv (DV.val (Value.int IntKind.u8 j0))] [] (OSh.chk (OSh.plain (.b) []))
theorem lex_digit_e (n : Nat) (j0 : Int) : lex_digit_v n j0 =
  bif decide (j0 ≥ 48) then
    some (decide (j0 ≤ 57), ())
  else some (false, ()) := by kernel_rfl
theorem lex_digit_c (n : Nat) (j0 : Int) (y : Bool × Unit) (h : lex_digit_v n j0 = some y) : Contract Tryd.prog 97 [AV.dv (DV.val (Value.int IntKind.u8 j0))] [] (OSh.enc (OSh.plain (.b) []) y) :=
  auto_okM tm_std (with_ok mixed (by kernel_rfl) (lex_digit_σok n) n 0 []) (with_pick mixed (by kernel_rfl) (lex_digit_σok n) n 0 []) mixed Tryd.func97 (by decide) (o := (OSh.plain (.b) [])) h
/-! lex_one_1: function 94 -/
def lex_one_1_lv : Live := []
noncomputable def lex_one_1_σ (n : Nat) : Spec := (inst 95 [.i IntKind.u8] [] (OSh.plain (.b) []) (fun x e => lex_small_v n x.1) (inst 96 [.i IntKind.u8] [] (OSh.plain (.b) []) (fun x e => lex_great_v n x.1) (inst 97 [.i IntKind.u8] [] (OSh.plain (.b) []) (fun x e => lex_digit_v n x.1) Spec.none)))
theorem lex_one_1_σok (n : Nat) : SpecOk Tryd.prog (lex_one_1_σ n) := (inst_ok (fun x e y h => lex_small_c n x.1 y h) (inst_ok (fun x e y h => lex_great_c n x.1 y h) (inst_ok (fun x e y h => lex_digit_c n x.1 y h) (SpecOk.none _))))
noncomputable def lex_one_1_Φ (n : Nat) : Orc := with_ Tryd.prog (lex_one_1_σ n) [] n 0 []
noncomputable def lex_one_1_v (n : Nat) (j0 : Int) : Option (Bool × Unit) :=
  DM.denFn tm (lex_one_1_Φ n) lex_one_1_lv n Tryd.f94 false [AV.dv (DV.val (Value.int IntKind.u8 j0))] [] (OSh.chk (OSh.plain (.b) []))
theorem lex_one_1_e (n : Nat) (j0 : Int) : lex_one_1_v n j0 =
  obind (lex_small_v n j0) fun y1 =>
  bif y1.fst then
    some (true, ())
  else obind (lex_great_v n j0) fun y2 =>
  bif y2.fst then
    some (true, ())
  else obind (lex_digit_v n j0) fun y3 =>
  bif y3.fst then
    some (true, ())
  else some (j0 == 95, ()) := by kernel_rfl
theorem lex_one_1_c (n : Nat) (j0 : Int) (y : Bool × Unit) (h : lex_one_1_v n j0 = some y) : Contract Tryd.prog 94 [AV.dv (DV.val (Value.int IntKind.u8 j0))] [] (OSh.enc (OSh.plain (.b) []) y) :=
  auto_okM tm_std (with_ok mixed (by kernel_rfl) (lex_one_1_σok n) n 0 []) (with_pick mixed (by kernel_rfl) (lex_one_1_σok n) n 0 []) mixed Tryd.func94 (by decide) (o := (OSh.plain (.b) [])) h
/-! lex_over: function 92 -/
def lex_over_lex_one_1_lv : Live := [(1, [0, 1, 2], [1000, 1001, 1002, 1003])]
noncomputable def lex_over_lex_one_1_σ (n : Nat) : Spec := (inst 94 [.i IntKind.u8] [] (OSh.plain (.b) []) (fun x e => lex_one_1_v n x.1) Spec.none)
theorem lex_over_lex_one_1_σok (n : Nat) : SpecOk Tryd.prog (lex_over_lex_one_1_σ n) := (inst_ok (fun x e y h => lex_one_1_c n x.1 y h) (SpecOk.none _))
noncomputable def lex_over_lex_one_1_Φ (n : Nat) : Orc := with_ Tryd.prog (lex_over_lex_one_1_σ n) [] n 0 []
noncomputable def lex_over_lex_one_1_v (n : Nat) (s0 : ByteArray) (j1 : Int) : Option (Int × Unit) :=
  DM.denFn tm (lex_over_lex_one_1_Φ n) lex_over_lex_one_1_lv n Tryd.f92 false [AV.dv (DV.val (Value.string s0)), AV.dv (DV.val (Value.int IntKind.i64 j1)), AV.fn 94 []] [] (OSh.chk (OSh.plain (.i IntKind.i64) []))
noncomputable def lex_over_lex_one_1_l1 (n : Nat) (s0 : ByteArray) (j1 : Int) (i0 : Nat) (j3 : Int) : Option (Int × Unit) :=
  DM.loopFn tm (lex_over_lex_one_1_Φ n) lex_over_lex_one_1_lv n Tryd.f92 false [] (OSh.chk (OSh.plain (.i IntKind.i64) [])) 1 [] i0 (St.mk [AV.dv (DV.val (Value.string s0)), AV.dv (DV.val (Value.int IntKind.i64 j3)), AV.fn 94 [], AV.junk, AV.junk, AV.junk, AV.junk, AV.junk, AV.junk, AV.junk, AV.junk, AV.junk, AV.junk, AV.junk, AV.junk, AV.junk, AV.junk, AV.junk, AV.junk, AV.junk, AV.junk] [])
theorem lex_over_lex_one_1_s1 (n : Nat) (s0 : ByteArray) (j1 : Int) (i0 : Nat) (j3 : Int) : lex_over_lex_one_1_l1 n s0 j1 (i0 + 1) j3 =
  bif decide (j3 < (↑(ByteArray.size s0) : Int)) then
    if 0 ≤ j3 then
      if j3 < (↑(ByteArray.size s0) : Int) then
        obind (lex_one_1_v n (bt s0 j3)) fun y4 =>
        bif y4.fst then
          lex_over_lex_one_1_l1 n s0 j1 i0 (IntKind.wrap IntKind.i64 (j3 + 1))
        else some (j3, ())
      else none
    else none
  else some (j3, ()) := by kernel_rfl
theorem lex_over_lex_one_1_e (n : Nat) (s0 : ByteArray) (j1 : Int) : lex_over_lex_one_1_v n s0 j1 =
  lex_over_lex_one_1_l1 n s0 j1 n j1 := by kernel_rfl
theorem lex_over_lex_one_1_c (n : Nat) (s0 : ByteArray) (j1 : Int) (y : Int × Unit) (h : lex_over_lex_one_1_v n s0 j1 = some y) : Contract Tryd.prog 92 [AV.dv (DV.val (Value.string s0)), AV.dv (DV.val (Value.int IntKind.i64 j1)), AV.fn 94 []] [] (OSh.enc (OSh.plain (.i IntKind.i64) []) y) :=
  auto_okM tm_std (with_ok mixed (by kernel_rfl) (lex_over_lex_one_1_σok n) n 0 []) (with_pick mixed (by kernel_rfl) (lex_over_lex_one_1_σok n) n 0 []) mixed Tryd.func92 (by decide) (o := (OSh.plain (.i IntKind.i64) [])) h
/-! lex_over: function 92 -/
def lex_over_lex_digit_lv : Live := [(1, [0, 1, 2], [1000, 1001, 1002, 1003])]
noncomputable def lex_over_lex_digit_σ (n : Nat) : Spec := (inst 97 [.i IntKind.u8] [] (OSh.plain (.b) []) (fun x e => lex_digit_v n x.1) Spec.none)
theorem lex_over_lex_digit_σok (n : Nat) : SpecOk Tryd.prog (lex_over_lex_digit_σ n) := (inst_ok (fun x e y h => lex_digit_c n x.1 y h) (SpecOk.none _))
noncomputable def lex_over_lex_digit_Φ (n : Nat) : Orc := with_ Tryd.prog (lex_over_lex_digit_σ n) [] n 0 []
noncomputable def lex_over_lex_digit_v (n : Nat) (s0 : ByteArray) (j1 : Int) : Option (Int × Unit) :=
  DM.denFn tm (lex_over_lex_digit_Φ n) lex_over_lex_digit_lv n Tryd.f92 false [AV.dv (DV.val (Value.string s0)), AV.dv (DV.val (Value.int IntKind.i64 j1)), AV.fn 97 []] [] (OSh.chk (OSh.plain (.i IntKind.i64) []))
noncomputable def lex_over_lex_digit_l1 (n : Nat) (s0 : ByteArray) (j1 : Int) (i0 : Nat) (j3 : Int) : Option (Int × Unit) :=
  DM.loopFn tm (lex_over_lex_digit_Φ n) lex_over_lex_digit_lv n Tryd.f92 false [] (OSh.chk (OSh.plain (.i IntKind.i64) [])) 1 [] i0 (St.mk [AV.dv (DV.val (Value.string s0)), AV.dv (DV.val (Value.int IntKind.i64 j3)), AV.fn 97 [], AV.junk, AV.junk, AV.junk, AV.junk, AV.junk, AV.junk, AV.junk, AV.junk, AV.junk, AV.junk, AV.junk, AV.junk, AV.junk, AV.junk, AV.junk, AV.junk, AV.junk, AV.junk] [])
theorem lex_over_lex_digit_s1 (n : Nat) (s0 : ByteArray) (j1 : Int) (i0 : Nat) (j3 : Int) : lex_over_lex_digit_l1 n s0 j1 (i0 + 1) j3 =
  bif decide (j3 < (↑(ByteArray.size s0) : Int)) then
    if 0 ≤ j3 then
      if j3 < (↑(ByteArray.size s0) : Int) then
        obind (lex_digit_v n (bt s0 j3)) fun y4 =>
        bif y4.fst then
          lex_over_lex_digit_l1 n s0 j1 i0 (IntKind.wrap IntKind.i64 (j3 + 1))
        else some (j3, ())
      else none
    else none
  else some (j3, ()) := by kernel_rfl
theorem lex_over_lex_digit_e (n : Nat) (s0 : ByteArray) (j1 : Int) : lex_over_lex_digit_v n s0 j1 =
  lex_over_lex_digit_l1 n s0 j1 n j1 := by kernel_rfl
theorem lex_over_lex_digit_c (n : Nat) (s0 : ByteArray) (j1 : Int) (y : Int × Unit) (h : lex_over_lex_digit_v n s0 j1 = some y) : Contract Tryd.prog 92 [AV.dv (DV.val (Value.string s0)), AV.dv (DV.val (Value.int IntKind.i64 j1)), AV.fn 97 []] [] (OSh.enc (OSh.plain (.i IntKind.i64) []) y) :=
  auto_okM tm_std (with_ok mixed (by kernel_rfl) (lex_over_lex_digit_σok n) n 0 []) (with_pick mixed (by kernel_rfl) (lex_over_lex_digit_σok n) n 0 []) mixed Tryd.func92 (by decide) (o := (OSh.plain (.i IntKind.i64) [])) h
/-! lex_number: function 98 -/
def lex_number_lv : Live := [(8, [0, 4, 5, 30, 31], [1000, 1001, 1002, 1003])]
noncomputable def lex_number_σ (n : Nat) : Spec := Spec.none
theorem lex_number_σok (n : Nat) : SpecOk Tryd.prog (lex_number_σ n) := (SpecOk.none _)
noncomputable def lex_number_Φ (n : Nat) : Orc := with_ Tryd.prog (lex_number_σ n) [] n 0 []
noncomputable def lex_number_v (n : Nat) (s0 : ByteArray) : Option ((Int × Bool × Unit) × Unit) :=
  DM.denFn tm (lex_number_Φ n) lex_number_lv n Tryd.f98 false [AV.dv (DV.val (Value.string s0))] [] (OSh.chk (OSh.plain (.tup [.i IntKind.i64, .b]) []))
noncomputable def lex_number_l8 (n : Nat) (s0 : ByteArray) (i0 : Nat) (s1 : ByteArray) (j2 : Int) (j3 : Int) (j4 : Int) : Option ((Int × Bool × Unit) × Unit) :=
  DM.loopFn tm (lex_number_Φ n) lex_number_lv n Tryd.f98 false [] (OSh.chk (OSh.plain (.tup [.i IntKind.i64, .b]) [])) 8 [] i0 (St.mk [AV.dv (DV.val (Value.string s1)), AV.junk, AV.junk, AV.junk, AV.dv (DV.val (Value.bool (bt s0 0 == 45))), AV.dv (DV.val (Value.int IntKind.i64 j3)), AV.junk, AV.junk, AV.junk, AV.junk, AV.junk, AV.junk, AV.junk, AV.junk, AV.junk, AV.junk, AV.junk, AV.junk, AV.junk, AV.junk, AV.junk, AV.junk, AV.junk, AV.junk, AV.junk, AV.junk, AV.junk, AV.junk, AV.junk, AV.junk, AV.dv (DV.val (Value.int IntKind.i64 j2)), AV.dv (DV.val (Value.int IntKind.i64 j4)), AV.junk, AV.junk, AV.junk, AV.junk, AV.junk, AV.junk, AV.junk, AV.junk, AV.junk, AV.junk, AV.junk, AV.junk, AV.junk, AV.junk, AV.junk, AV.junk, AV.junk, AV.junk, AV.junk, AV.junk, AV.junk, AV.junk, AV.junk] [])
theorem lex_number_s8 (n : Nat) (s0 : ByteArray) (i0 : Nat) (s1 : ByteArray) (j2 : Int) (j3 : Int) (j4 : Int) : lex_number_l8 n s0 (i0 + 1) s1 j2 j3 j4 =
  bif decide (j4 < j2) then
    if 0 ≤ j4 then
      if j4 < (↑(ByteArray.size s1) : Int) then
        bif decide (j3 < IntKind.wrap IntKind.i64 (Int.tdiv (IntKind.wrap IntKind.i64 (-9223372036854775808 + IntKind.wrap IntKind.i64 (IntKind.wrap IntKind.u8 (bt s1 j4 - 48)))) 10)) then
          some ((0, (false, ())), ())
        else lex_number_l8 n s0 i0 s1 j2 (IntKind.wrap IntKind.i64 (IntKind.wrap IntKind.i64 (10 * j3) - IntKind.wrap IntKind.i64 (IntKind.wrap IntKind.u8 (bt s1 j4 - 48)))) (IntKind.wrap IntKind.i64 (j4 + 1))
      else none
    else none
  else bif bt s0 0 == 45 then
    some ((j3, (true, ())), ())
  else some ((IntKind.wrap IntKind.i64 (0 - j3), (j3 != -9223372036854775808, ())), ()) := by kernel_rfl
theorem lex_number_e (n : Nat) (s0 : ByteArray) : lex_number_v n s0 =
  if 0 < (↑(ByteArray.size s0) : Int) then
    bif bt s0 0 == 45 then
      if 1 ≤ (↑(ByteArray.size s0) : Int) then
        if (↑(ByteArray.size s0) : Int) ≤ (↑(ByteArray.size s0) : Int) then
          bif ByteArray.extract s0 1 (Int.toNat (↑(ByteArray.size s0) : Int)) == ByteArray.mk #[] then
            some ((0, (false, ())), ())
          else if 0 < (↑(ByteArray.size (ByteArray.extract s0 1 (Int.toNat (↑(ByteArray.size s0) : Int)))) : Int) then
            bif bt (ByteArray.extract s0 1 (Int.toNat (↑(ByteArray.size s0) : Int))) 0 == 48 then
              bif bt s0 0 == 45 then
                some ((0, (false, ())), ())
              else bif decide ((↑(ByteArray.size (ByteArray.extract s0 1 (Int.toNat (↑(ByteArray.size s0) : Int)))) : Int) > 1) then
                some ((0, (false, ())), ())
              else lex_number_l8 n s0 n (ByteArray.extract s0 1 (Int.toNat (↑(ByteArray.size s0) : Int))) ((↑(ByteArray.size (ByteArray.extract s0 1 (Int.toNat (↑(ByteArray.size s0) : Int)))) : Int)) 0 0
            else lex_number_l8 n s0 n (ByteArray.extract s0 1 (Int.toNat (↑(ByteArray.size s0) : Int))) ((↑(ByteArray.size (ByteArray.extract s0 1 (Int.toNat (↑(ByteArray.size s0) : Int)))) : Int)) 0 0
          else none
        else none
      else none
    else bif s0 == ByteArray.mk #[] then
      some ((0, (false, ())), ())
    else if 0 < (↑(ByteArray.size s0) : Int) then
      bif bt s0 0 == 48 then
        bif bt s0 0 == 45 then
          some ((0, (false, ())), ())
        else bif decide ((↑(ByteArray.size s0) : Int) > 1) then
          some ((0, (false, ())), ())
        else lex_number_l8 n s0 n s0 ((↑(ByteArray.size s0) : Int)) 0 0
      else lex_number_l8 n s0 n s0 ((↑(ByteArray.size s0) : Int)) 0 0
    else none
  else none := by kernel_rfl
theorem lex_number_c (n : Nat) (s0 : ByteArray) (y : (Int × Bool × Unit) × Unit) (h : lex_number_v n s0 = some y) : Contract Tryd.prog 98 [AV.dv (DV.val (Value.string s0))] [] (OSh.enc (OSh.plain (.tup [.i IntKind.i64, .b]) []) y) :=
  auto_okM tm_std (with_ok mixed (by kernel_rfl) (lex_number_σok n) n 0 []) (with_pick mixed (by kernel_rfl) (lex_number_σok n) n 0 []) mixed Tryd.func98 (by decide) (o := (OSh.plain (.tup [.i IntKind.i64, .b]) [])) h
/-! lex_quoted_1: function 106 -/
def lex_quoted_1_lv : Live := []
noncomputable def lex_quoted_1_σ (n : Nat) : Spec := Spec.none
theorem lex_quoted_1_σok (n : Nat) : SpecOk Tryd.prog (lex_quoted_1_σ n) := (SpecOk.none _)
noncomputable def lex_quoted_1_Φ (n : Nat) : Orc := with_ Tryd.prog (lex_quoted_1_σ n) [] n 0 []
noncomputable def lex_quoted_1_v (n : Nat) (j0 : Int) : Option (Bool × Unit) :=
  DM.denFn tm (lex_quoted_1_Φ n) lex_quoted_1_lv n Tryd.f106 false [AV.dv (DV.val (Value.int IntKind.u8 j0))] [] (OSh.chk (OSh.plain (.b) []))
theorem lex_quoted_1_e (n : Nat) (j0 : Int) : lex_quoted_1_v n j0 =
  bif decide (j0 ≥ 32) then
    bif decide (j0 ≤ 126) then
      bif j0 != 34 then
        some (j0 != 92, ())
      else some (false, ())
    else some (false, ())
  else some (false, ()) := by kernel_rfl
theorem lex_quoted_1_c (n : Nat) (j0 : Int) (y : Bool × Unit) (h : lex_quoted_1_v n j0 = some y) : Contract Tryd.prog 106 [AV.dv (DV.val (Value.int IntKind.u8 j0))] [] (OSh.enc (OSh.plain (.b) []) y) :=
  auto_okM tm_std (with_ok mixed (by kernel_rfl) (lex_quoted_1_σok n) n 0 []) (with_pick mixed (by kernel_rfl) (lex_quoted_1_σok n) n 0 []) mixed Tryd.func106 (by decide) (o := (OSh.plain (.b) [])) h
/-! lex_over: function 92 -/
def lex_over_lex_quoted_1_lv : Live := [(1, [0, 1, 2], [1000, 1001, 1002, 1003])]
noncomputable def lex_over_lex_quoted_1_σ (n : Nat) : Spec := (inst 106 [.i IntKind.u8] [] (OSh.plain (.b) []) (fun x e => lex_quoted_1_v n x.1) Spec.none)
theorem lex_over_lex_quoted_1_σok (n : Nat) : SpecOk Tryd.prog (lex_over_lex_quoted_1_σ n) := (inst_ok (fun x e y h => lex_quoted_1_c n x.1 y h) (SpecOk.none _))
noncomputable def lex_over_lex_quoted_1_Φ (n : Nat) : Orc := with_ Tryd.prog (lex_over_lex_quoted_1_σ n) [] n 0 []
noncomputable def lex_over_lex_quoted_1_v (n : Nat) (s0 : ByteArray) (j1 : Int) : Option (Int × Unit) :=
  DM.denFn tm (lex_over_lex_quoted_1_Φ n) lex_over_lex_quoted_1_lv n Tryd.f92 false [AV.dv (DV.val (Value.string s0)), AV.dv (DV.val (Value.int IntKind.i64 j1)), AV.fn 106 []] [] (OSh.chk (OSh.plain (.i IntKind.i64) []))
noncomputable def lex_over_lex_quoted_1_l1 (n : Nat) (s0 : ByteArray) (j1 : Int) (i0 : Nat) (j3 : Int) : Option (Int × Unit) :=
  DM.loopFn tm (lex_over_lex_quoted_1_Φ n) lex_over_lex_quoted_1_lv n Tryd.f92 false [] (OSh.chk (OSh.plain (.i IntKind.i64) [])) 1 [] i0 (St.mk [AV.dv (DV.val (Value.string s0)), AV.dv (DV.val (Value.int IntKind.i64 j3)), AV.fn 106 [], AV.junk, AV.junk, AV.junk, AV.junk, AV.junk, AV.junk, AV.junk, AV.junk, AV.junk, AV.junk, AV.junk, AV.junk, AV.junk, AV.junk, AV.junk, AV.junk, AV.junk, AV.junk] [])
theorem lex_over_lex_quoted_1_s1 (n : Nat) (s0 : ByteArray) (j1 : Int) (i0 : Nat) (j3 : Int) : lex_over_lex_quoted_1_l1 n s0 j1 (i0 + 1) j3 =
  bif decide (j3 < (↑(ByteArray.size s0) : Int)) then
    if 0 ≤ j3 then
      if j3 < (↑(ByteArray.size s0) : Int) then
        obind (lex_quoted_1_v n (bt s0 j3)) fun y4 =>
        bif y4.fst then
          lex_over_lex_quoted_1_l1 n s0 j1 i0 (IntKind.wrap IntKind.i64 (j3 + 1))
        else some (j3, ())
      else none
    else none
  else some (j3, ()) := by kernel_rfl
theorem lex_over_lex_quoted_1_e (n : Nat) (s0 : ByteArray) (j1 : Int) : lex_over_lex_quoted_1_v n s0 j1 =
  lex_over_lex_quoted_1_l1 n s0 j1 n j1 := by kernel_rfl
theorem lex_over_lex_quoted_1_c (n : Nat) (s0 : ByteArray) (j1 : Int) (y : Int × Unit) (h : lex_over_lex_quoted_1_v n s0 j1 = some y) : Contract Tryd.prog 92 [AV.dv (DV.val (Value.string s0)), AV.dv (DV.val (Value.int IntKind.i64 j1)), AV.fn 106 []] [] (OSh.enc (OSh.plain (.i IntKind.i64) []) y) :=
  auto_okM tm_std (with_ok mixed (by kernel_rfl) (lex_over_lex_quoted_1_σok n) n 0 []) (with_pick mixed (by kernel_rfl) (lex_over_lex_quoted_1_σok n) n 0 []) mixed Tryd.func92 (by decide) (o := (OSh.plain (.i IntKind.i64) [])) h
/-! lex_quoted: function 99 -/
def lex_quoted_lv : Live := []
noncomputable def lex_quoted_σ (n : Nat) : Spec := (inst 92 [.s, .i IntKind.i64, .fn 106 []] [] (OSh.plain (.i IntKind.i64) []) (fun x e => lex_over_lex_quoted_1_v n x.1 x.2.1) Spec.none)
theorem lex_quoted_σok (n : Nat) : SpecOk Tryd.prog (lex_quoted_σ n) := (inst_ok (fun x e y h => lex_over_lex_quoted_1_c n x.1 x.2.1 y h) (SpecOk.none _))
noncomputable def lex_quoted_Φ (n : Nat) : Orc := with_ Tryd.prog (lex_quoted_σ n) [] n 0 []
noncomputable def lex_quoted_v (n : Nat) (s0 : ByteArray) (j1 : Int) : Option ((ByteArray × Int × Bool × Unit) × Unit) :=
  DM.denFn tm (lex_quoted_Φ n) lex_quoted_lv n Tryd.f99 false [AV.dv (DV.val (Value.string s0)), AV.dv (DV.val (Value.int IntKind.i64 j1))] [] (OSh.chk (OSh.plain (.tup [.s, .i IntKind.i64, .b]) []))
theorem lex_quoted_e (n : Nat) (s0 : ByteArray) (j1 : Int) : lex_quoted_v n s0 j1 =
  obind (lex_over_lex_quoted_1_v n s0 (IntKind.wrap IntKind.i64 (j1 + 1))) fun y2 =>
  bif decide (y2.fst ≥ (↑(ByteArray.size s0) : Int)) then
    some ((ByteArray.mk #[], (0, (false, ()))), ())
  else if 0 ≤ y2.fst then
    if y2.fst < (↑(ByteArray.size s0) : Int) then
      bif bt s0 y2.fst != 34 then
        some ((ByteArray.mk #[], (0, (false, ()))), ())
      else if 0 ≤ IntKind.wrap IntKind.i64 (j1 + 1) then
        if IntKind.wrap IntKind.i64 (j1 + 1) ≤ y2.fst then
          if y2.fst ≤ (↑(ByteArray.size s0) : Int) then
            some ((ByteArray.extract s0 (Int.toNat (IntKind.wrap IntKind.i64 (j1 + 1))) (Int.toNat y2.fst), (IntKind.wrap IntKind.i64 (y2.fst + 1), (true, ()))), ())
          else none
        else none
      else none
    else none
  else none := by kernel_rfl
theorem lex_quoted_c (n : Nat) (s0 : ByteArray) (j1 : Int) (y : (ByteArray × Int × Bool × Unit) × Unit) (h : lex_quoted_v n s0 j1 = some y) : Contract Tryd.prog 99 [AV.dv (DV.val (Value.string s0)), AV.dv (DV.val (Value.int IntKind.i64 j1))] [] (OSh.enc (OSh.plain (.tup [.s, .i IntKind.i64, .b]) []) y) :=
  auto_okM tm_std (with_ok mixed (by kernel_rfl) (lex_quoted_σok n) n 0 []) (with_pick mixed (by kernel_rfl) (lex_quoted_σok n) n 0 []) mixed Tryd.func99 (by decide) (o := (OSh.plain (.tup [.s, .i IntKind.i64, .b]) [])) h
/-! lex_one: function 70 -/
def lex_one_lv : Live := []
noncomputable def lex_one_σ (n : Nat) : Spec := (inst 95 [.i IntKind.u8] [] (OSh.plain (.b) []) (fun x e => lex_small_v n x.1) (inst 92 [.s, .i IntKind.i64, .fn 94 []] [] (OSh.plain (.i IntKind.i64) []) (fun x e => lex_over_lex_one_1_v n x.1 x.2.1) (inst 96 [.i IntKind.u8] [] (OSh.plain (.b) []) (fun x e => lex_great_v n x.1) (inst 97 [.i IntKind.u8] [] (OSh.plain (.b) []) (fun x e => lex_digit_v n x.1) (inst 92 [.s, .i IntKind.i64, .fn 97 []] [] (OSh.plain (.i IntKind.i64) []) (fun x e => lex_over_lex_digit_v n x.1 x.2.1) (inst 98 [.s] [] (OSh.plain (.tup [.i IntKind.i64, .b]) []) (fun x e => lex_number_v n x.1) (inst 99 [.s, .i IntKind.i64] [] (OSh.plain (.tup [.s, .i IntKind.i64, .b]) []) (fun x e => lex_quoted_v n x.1 x.2.1) Spec.none)))))))
theorem lex_one_σok (n : Nat) : SpecOk Tryd.prog (lex_one_σ n) := (inst_ok (fun x e y h => lex_small_c n x.1 y h) (inst_ok (fun x e y h => lex_over_lex_one_1_c n x.1 x.2.1 y h) (inst_ok (fun x e y h => lex_great_c n x.1 y h) (inst_ok (fun x e y h => lex_digit_c n x.1 y h) (inst_ok (fun x e y h => lex_over_lex_digit_c n x.1 x.2.1 y h) (inst_ok (fun x e y h => lex_number_c n x.1 y h) (inst_ok (fun x e y h => lex_quoted_c n x.1 x.2.1 y h) (SpecOk.none _))))))))
noncomputable def lex_one_Φ (n : Nat) : Orc := with_ Tryd.prog (lex_one_σ n) [] n 0 []
noncomputable def lex_one_v (n : Nat) (s0 : ByteArray) (j1 : Int) : Option (((Int × ByteArray × Int × Int × Unit) × Int × Int × Unit) × Unit) :=
  DM.denFn tm (lex_one_Φ n) lex_one_lv n Tryd.f70 false [AV.dv (DV.val (Value.string s0)), AV.dv (DV.val (Value.int IntKind.i64 j1))] [] (OSh.chk (OSh.plain (.tup [.agg [.i IntKind.i64, .s, .i IntKind.i64, .i IntKind.i64], .i IntKind.i64, .i IntKind.i64]) []))
theorem lex_one_e (n : Nat) (s0 : ByteArray) (j1 : Int) : lex_one_v n s0 j1 =
  if 0 ≤ j1 then
    if j1 < (↑(ByteArray.size s0) : Int) then
      obind (lex_small_v n (bt s0 j1)) fun y2 =>
      bif y2.fst then
        obind (lex_over_lex_one_1_v n s0 j1) fun y3 =>
        if 0 ≤ j1 then
          if j1 ≤ y3.fst then
            if y3.fst ≤ (↑(ByteArray.size s0) : Int) then
              bif decide ((↑(ByteArray.size (ByteArray.extract s0 (Int.toNat j1) (Int.toNat y3.fst))) : Int) > 32) then
                some (((1, (ByteArray.extract s0 (Int.toNat j1) (Int.toNat y3.fst), (0, (j1, ())))), (0, (71, ()))), ())
              else some (((1, (ByteArray.extract s0 (Int.toNat j1) (Int.toNat y3.fst), (0, (j1, ())))), (y3.fst, (0, ()))), ())
            else none
          else none
        else none
      else obind (lex_great_v n (bt s0 j1)) fun y4 =>
      bif y4.fst then
        obind (lex_over_lex_one_1_v n s0 j1) fun y5 =>
        if 0 ≤ j1 then
          if j1 ≤ y5.fst then
            if y5.fst ≤ (↑(ByteArray.size s0) : Int) then
              bif decide ((↑(ByteArray.size (ByteArray.extract s0 (Int.toNat j1) (Int.toNat y5.fst))) : Int) > 32) then
                some (((2, (ByteArray.extract s0 (Int.toNat j1) (Int.toNat y5.fst), (0, (j1, ())))), (0, (71, ()))), ())
              else some (((2, (ByteArray.extract s0 (Int.toNat j1) (Int.toNat y5.fst), (0, (j1, ())))), (y5.fst, (0, ()))), ())
            else none
          else none
        else none
      else obind (lex_digit_v n (bt s0 j1)) fun y6 =>
      bif y6.fst then
        obind (lex_over_lex_digit_v n s0 (IntKind.wrap IntKind.i64 (j1 + 1))) fun y7 =>
        if 0 ≤ j1 then
          if j1 ≤ y7.fst then
            if y7.fst ≤ (↑(ByteArray.size s0) : Int) then
              obind (lex_number_v n (ByteArray.extract s0 (Int.toNat j1) (Int.toNat y7.fst))) fun y8 =>
              bif !y8.fst.snd.fst then
                some (((0, (ByteArray.mk #[], (0, (j1, ())))), (0, (70, ()))), ())
              else some (((3, (ByteArray.mk #[], (y8.fst.fst, (j1, ())))), (y7.fst, (0, ()))), ())
            else none
          else none
        else none
      else bif bt s0 j1 == 45 then
        obind (lex_over_lex_digit_v n s0 (IntKind.wrap IntKind.i64 (j1 + 1))) fun y9 =>
        if 0 ≤ j1 then
          if j1 ≤ y9.fst then
            if y9.fst ≤ (↑(ByteArray.size s0) : Int) then
              obind (lex_number_v n (ByteArray.extract s0 (Int.toNat j1) (Int.toNat y9.fst))) fun y10 =>
              bif !y10.fst.snd.fst then
                some (((0, (ByteArray.mk #[], (0, (j1, ())))), (0, (70, ()))), ())
              else some (((3, (ByteArray.mk #[], (y10.fst.fst, (j1, ())))), (y9.fst, (0, ()))), ())
            else none
          else none
        else none
      else bif bt s0 j1 == 34 then
        obind (lex_quoted_v n s0 j1) fun y11 =>
        bif !y11.fst.snd.snd.fst then
          some (((0, (ByteArray.mk #[], (0, (j1, ())))), (0, (70, ()))), ())
        else bif decide ((↑(ByteArray.size y11.fst.fst) : Int) > 32) then
          some (((4, (y11.fst.fst, (0, (j1, ())))), (0, (71, ()))), ())
        else some (((4, (y11.fst.fst, (0, (j1, ())))), (y11.fst.snd.fst, (0, ()))), ())
      else bif bt s0 j1 == 58 then
        bif decide (IntKind.wrap IntKind.i64 (j1 + 1) < (↑(ByteArray.size s0) : Int)) then
          if 0 ≤ IntKind.wrap IntKind.i64 (j1 + 1) then
            if IntKind.wrap IntKind.i64 (j1 + 1) < (↑(ByteArray.size s0) : Int) then
              bif bt s0 (IntKind.wrap IntKind.i64 (j1 + 1)) == 45 then
                if 0 ≤ j1 then
                  if j1 ≤ IntKind.wrap IntKind.i64 (IntKind.wrap IntKind.i64 (j1 + 1) + 1) then
                    if IntKind.wrap IntKind.i64 (IntKind.wrap IntKind.i64 (j1 + 1) + 1) ≤ (↑(ByteArray.size s0) : Int) then
                      bif decide ((↑(ByteArray.size (ByteArray.extract s0 (Int.toNat j1) (Int.toNat (IntKind.wrap IntKind.i64 (IntKind.wrap IntKind.i64 (j1 + 1) + 1))))) : Int) > 32) then
                        some (((5, (ByteArray.extract s0 (Int.toNat j1) (Int.toNat (IntKind.wrap IntKind.i64 (IntKind.wrap IntKind.i64 (j1 + 1) + 1))), (0, (j1, ())))), (0, (71, ()))), ())
                      else some (((5, (ByteArray.extract s0 (Int.toNat j1) (Int.toNat (IntKind.wrap IntKind.i64 (IntKind.wrap IntKind.i64 (j1 + 1) + 1))), (0, (j1, ())))), (IntKind.wrap IntKind.i64 (IntKind.wrap IntKind.i64 (j1 + 1) + 1), (0, ()))), ())
                    else none
                  else none
                else none
              else bif bt s0 j1 == 40 then
                if 0 ≤ j1 then
                  if j1 ≤ IntKind.wrap IntKind.i64 (j1 + 1) then
                    if IntKind.wrap IntKind.i64 (j1 + 1) ≤ (↑(ByteArray.size s0) : Int) then
                      bif decide ((↑(ByteArray.size (ByteArray.extract s0 (Int.toNat j1) (Int.toNat (IntKind.wrap IntKind.i64 (j1 + 1))))) : Int) > 32) then
                        some (((5, (ByteArray.extract s0 (Int.toNat j1) (Int.toNat (IntKind.wrap IntKind.i64 (j1 + 1))), (0, (j1, ())))), (0, (71, ()))), ())
                      else some (((5, (ByteArray.extract s0 (Int.toNat j1) (Int.toNat (IntKind.wrap IntKind.i64 (j1 + 1))), (0, (j1, ())))), (IntKind.wrap IntKind.i64 (j1 + 1), (0, ()))), ())
                    else none
                  else none
                else none
              else bif bt s0 j1 == 41 then
                if 0 ≤ j1 then
                  if j1 ≤ IntKind.wrap IntKind.i64 (j1 + 1) then
                    if IntKind.wrap IntKind.i64 (j1 + 1) ≤ (↑(ByteArray.size s0) : Int) then
                      bif decide ((↑(ByteArray.size (ByteArray.extract s0 (Int.toNat j1) (Int.toNat (IntKind.wrap IntKind.i64 (j1 + 1))))) : Int) > 32) then
                        some (((5, (ByteArray.extract s0 (Int.toNat j1) (Int.toNat (IntKind.wrap IntKind.i64 (j1 + 1))), (0, (j1, ())))), (0, (71, ()))), ())
                      else some (((5, (ByteArray.extract s0 (Int.toNat j1) (Int.toNat (IntKind.wrap IntKind.i64 (j1 + 1))), (0, (j1, ())))), (IntKind.wrap IntKind.i64 (j1 + 1), (0, ()))), ())
                    else none
                  else none
                else none
              else bif bt s0 j1 == 44 then
                if 0 ≤ j1 then
                  if j1 ≤ IntKind.wrap IntKind.i64 (j1 + 1) then
                    if IntKind.wrap IntKind.i64 (j1 + 1) ≤ (↑(ByteArray.size s0) : Int) then
                      bif decide ((↑(ByteArray.size (ByteArray.extract s0 (Int.toNat j1) (Int.toNat (IntKind.wrap IntKind.i64 (j1 + 1))))) : Int) > 32) then
                        some (((5, (ByteArray.extract s0 (Int.toNat j1) (Int.toNat (IntKind.wrap IntKind.i64 (j1 + 1))), (0, (j1, ())))), (0, (71, ()))), ())
                      else some (((5, (ByteArray.extract s0 (Int.toNat j1) (Int.toNat (IntKind.wrap IntKind.i64 (j1 + 1))), (0, (j1, ())))), (IntKind.wrap IntKind.i64 (j1 + 1), (0, ()))), ())
                    else none
                  else none
                else none
              else bif bt s0 j1 == 46 then
                if 0 ≤ j1 then
                  if j1 ≤ IntKind.wrap IntKind.i64 (j1 + 1) then
                    if IntKind.wrap IntKind.i64 (j1 + 1) ≤ (↑(ByteArray.size s0) : Int) then
                      bif decide ((↑(ByteArray.size (ByteArray.extract s0 (Int.toNat j1) (Int.toNat (IntKind.wrap IntKind.i64 (j1 + 1))))) : Int) > 32) then
                        some (((5, (ByteArray.extract s0 (Int.toNat j1) (Int.toNat (IntKind.wrap IntKind.i64 (j1 + 1))), (0, (j1, ())))), (0, (71, ()))), ())
                      else some (((5, (ByteArray.extract s0 (Int.toNat j1) (Int.toNat (IntKind.wrap IntKind.i64 (j1 + 1))), (0, (j1, ())))), (IntKind.wrap IntKind.i64 (j1 + 1), (0, ()))), ())
                    else none
                  else none
                else none
              else bif bt s0 j1 == 58 then
                if 0 ≤ j1 then
                  if j1 ≤ IntKind.wrap IntKind.i64 (j1 + 1) then
                    if IntKind.wrap IntKind.i64 (j1 + 1) ≤ (↑(ByteArray.size s0) : Int) then
                      bif decide ((↑(ByteArray.size (ByteArray.extract s0 (Int.toNat j1) (Int.toNat (IntKind.wrap IntKind.i64 (j1 + 1))))) : Int) > 32) then
                        some (((5, (ByteArray.extract s0 (Int.toNat j1) (Int.toNat (IntKind.wrap IntKind.i64 (j1 + 1))), (0, (j1, ())))), (0, (71, ()))), ())
                      else some (((5, (ByteArray.extract s0 (Int.toNat j1) (Int.toNat (IntKind.wrap IntKind.i64 (j1 + 1))), (0, (j1, ())))), (IntKind.wrap IntKind.i64 (j1 + 1), (0, ()))), ())
                    else none
                  else none
                else none
              else some (((0, (ByteArray.mk #[], (0, (j1, ())))), (0, (70, ()))), ())
            else none
          else none
        else bif bt s0 j1 == 40 then
          if 0 ≤ j1 then
            if j1 ≤ IntKind.wrap IntKind.i64 (j1 + 1) then
              if IntKind.wrap IntKind.i64 (j1 + 1) ≤ (↑(ByteArray.size s0) : Int) then
                bif decide ((↑(ByteArray.size (ByteArray.extract s0 (Int.toNat j1) (Int.toNat (IntKind.wrap IntKind.i64 (j1 + 1))))) : Int) > 32) then
                  some (((5, (ByteArray.extract s0 (Int.toNat j1) (Int.toNat (IntKind.wrap IntKind.i64 (j1 + 1))), (0, (j1, ())))), (0, (71, ()))), ())
                else some (((5, (ByteArray.extract s0 (Int.toNat j1) (Int.toNat (IntKind.wrap IntKind.i64 (j1 + 1))), (0, (j1, ())))), (IntKind.wrap IntKind.i64 (j1 + 1), (0, ()))), ())
              else none
            else none
          else none
        else bif bt s0 j1 == 41 then
          if 0 ≤ j1 then
            if j1 ≤ IntKind.wrap IntKind.i64 (j1 + 1) then
              if IntKind.wrap IntKind.i64 (j1 + 1) ≤ (↑(ByteArray.size s0) : Int) then
                bif decide ((↑(ByteArray.size (ByteArray.extract s0 (Int.toNat j1) (Int.toNat (IntKind.wrap IntKind.i64 (j1 + 1))))) : Int) > 32) then
                  some (((5, (ByteArray.extract s0 (Int.toNat j1) (Int.toNat (IntKind.wrap IntKind.i64 (j1 + 1))), (0, (j1, ())))), (0, (71, ()))), ())
                else some (((5, (ByteArray.extract s0 (Int.toNat j1) (Int.toNat (IntKind.wrap IntKind.i64 (j1 + 1))), (0, (j1, ())))), (IntKind.wrap IntKind.i64 (j1 + 1), (0, ()))), ())
              else none
            else none
          else none
        else bif bt s0 j1 == 44 then
          if 0 ≤ j1 then
            if j1 ≤ IntKind.wrap IntKind.i64 (j1 + 1) then
              if IntKind.wrap IntKind.i64 (j1 + 1) ≤ (↑(ByteArray.size s0) : Int) then
                bif decide ((↑(ByteArray.size (ByteArray.extract s0 (Int.toNat j1) (Int.toNat (IntKind.wrap IntKind.i64 (j1 + 1))))) : Int) > 32) then
                  some (((5, (ByteArray.extract s0 (Int.toNat j1) (Int.toNat (IntKind.wrap IntKind.i64 (j1 + 1))), (0, (j1, ())))), (0, (71, ()))), ())
                else some (((5, (ByteArray.extract s0 (Int.toNat j1) (Int.toNat (IntKind.wrap IntKind.i64 (j1 + 1))), (0, (j1, ())))), (IntKind.wrap IntKind.i64 (j1 + 1), (0, ()))), ())
              else none
            else none
          else none
        else bif bt s0 j1 == 46 then
          if 0 ≤ j1 then
            if j1 ≤ IntKind.wrap IntKind.i64 (j1 + 1) then
              if IntKind.wrap IntKind.i64 (j1 + 1) ≤ (↑(ByteArray.size s0) : Int) then
                bif decide ((↑(ByteArray.size (ByteArray.extract s0 (Int.toNat j1) (Int.toNat (IntKind.wrap IntKind.i64 (j1 + 1))))) : Int) > 32) then
                  some (((5, (ByteArray.extract s0 (Int.toNat j1) (Int.toNat (IntKind.wrap IntKind.i64 (j1 + 1))), (0, (j1, ())))), (0, (71, ()))), ())
                else some (((5, (ByteArray.extract s0 (Int.toNat j1) (Int.toNat (IntKind.wrap IntKind.i64 (j1 + 1))), (0, (j1, ())))), (IntKind.wrap IntKind.i64 (j1 + 1), (0, ()))), ())
              else none
            else none
          else none
        else bif bt s0 j1 == 58 then
          if 0 ≤ j1 then
            if j1 ≤ IntKind.wrap IntKind.i64 (j1 + 1) then
              if IntKind.wrap IntKind.i64 (j1 + 1) ≤ (↑(ByteArray.size s0) : Int) then
                bif decide ((↑(ByteArray.size (ByteArray.extract s0 (Int.toNat j1) (Int.toNat (IntKind.wrap IntKind.i64 (j1 + 1))))) : Int) > 32) then
                  some (((5, (ByteArray.extract s0 (Int.toNat j1) (Int.toNat (IntKind.wrap IntKind.i64 (j1 + 1))), (0, (j1, ())))), (0, (71, ()))), ())
                else some (((5, (ByteArray.extract s0 (Int.toNat j1) (Int.toNat (IntKind.wrap IntKind.i64 (j1 + 1))), (0, (j1, ())))), (IntKind.wrap IntKind.i64 (j1 + 1), (0, ()))), ())
              else none
            else none
          else none
        else some (((0, (ByteArray.mk #[], (0, (j1, ())))), (0, (70, ()))), ())
      else bif bt s0 j1 == 40 then
        if 0 ≤ j1 then
          if j1 ≤ IntKind.wrap IntKind.i64 (j1 + 1) then
            if IntKind.wrap IntKind.i64 (j1 + 1) ≤ (↑(ByteArray.size s0) : Int) then
              bif decide ((↑(ByteArray.size (ByteArray.extract s0 (Int.toNat j1) (Int.toNat (IntKind.wrap IntKind.i64 (j1 + 1))))) : Int) > 32) then
                some (((5, (ByteArray.extract s0 (Int.toNat j1) (Int.toNat (IntKind.wrap IntKind.i64 (j1 + 1))), (0, (j1, ())))), (0, (71, ()))), ())
              else some (((5, (ByteArray.extract s0 (Int.toNat j1) (Int.toNat (IntKind.wrap IntKind.i64 (j1 + 1))), (0, (j1, ())))), (IntKind.wrap IntKind.i64 (j1 + 1), (0, ()))), ())
            else none
          else none
        else none
      else bif bt s0 j1 == 41 then
        if 0 ≤ j1 then
          if j1 ≤ IntKind.wrap IntKind.i64 (j1 + 1) then
            if IntKind.wrap IntKind.i64 (j1 + 1) ≤ (↑(ByteArray.size s0) : Int) then
              bif decide ((↑(ByteArray.size (ByteArray.extract s0 (Int.toNat j1) (Int.toNat (IntKind.wrap IntKind.i64 (j1 + 1))))) : Int) > 32) then
                some (((5, (ByteArray.extract s0 (Int.toNat j1) (Int.toNat (IntKind.wrap IntKind.i64 (j1 + 1))), (0, (j1, ())))), (0, (71, ()))), ())
              else some (((5, (ByteArray.extract s0 (Int.toNat j1) (Int.toNat (IntKind.wrap IntKind.i64 (j1 + 1))), (0, (j1, ())))), (IntKind.wrap IntKind.i64 (j1 + 1), (0, ()))), ())
            else none
          else none
        else none
      else bif bt s0 j1 == 44 then
        if 0 ≤ j1 then
          if j1 ≤ IntKind.wrap IntKind.i64 (j1 + 1) then
            if IntKind.wrap IntKind.i64 (j1 + 1) ≤ (↑(ByteArray.size s0) : Int) then
              bif decide ((↑(ByteArray.size (ByteArray.extract s0 (Int.toNat j1) (Int.toNat (IntKind.wrap IntKind.i64 (j1 + 1))))) : Int) > 32) then
                some (((5, (ByteArray.extract s0 (Int.toNat j1) (Int.toNat (IntKind.wrap IntKind.i64 (j1 + 1))), (0, (j1, ())))), (0, (71, ()))), ())
              else some (((5, (ByteArray.extract s0 (Int.toNat j1) (Int.toNat (IntKind.wrap IntKind.i64 (j1 + 1))), (0, (j1, ())))), (IntKind.wrap IntKind.i64 (j1 + 1), (0, ()))), ())
            else none
          else none
        else none
      else bif bt s0 j1 == 46 then
        if 0 ≤ j1 then
          if j1 ≤ IntKind.wrap IntKind.i64 (j1 + 1) then
            if IntKind.wrap IntKind.i64 (j1 + 1) ≤ (↑(ByteArray.size s0) : Int) then
              bif decide ((↑(ByteArray.size (ByteArray.extract s0 (Int.toNat j1) (Int.toNat (IntKind.wrap IntKind.i64 (j1 + 1))))) : Int) > 32) then
                some (((5, (ByteArray.extract s0 (Int.toNat j1) (Int.toNat (IntKind.wrap IntKind.i64 (j1 + 1))), (0, (j1, ())))), (0, (71, ()))), ())
              else some (((5, (ByteArray.extract s0 (Int.toNat j1) (Int.toNat (IntKind.wrap IntKind.i64 (j1 + 1))), (0, (j1, ())))), (IntKind.wrap IntKind.i64 (j1 + 1), (0, ()))), ())
            else none
          else none
        else none
      else bif bt s0 j1 == 58 then
        if 0 ≤ j1 then
          if j1 ≤ IntKind.wrap IntKind.i64 (j1 + 1) then
            if IntKind.wrap IntKind.i64 (j1 + 1) ≤ (↑(ByteArray.size s0) : Int) then
              bif decide ((↑(ByteArray.size (ByteArray.extract s0 (Int.toNat j1) (Int.toNat (IntKind.wrap IntKind.i64 (j1 + 1))))) : Int) > 32) then
                some (((5, (ByteArray.extract s0 (Int.toNat j1) (Int.toNat (IntKind.wrap IntKind.i64 (j1 + 1))), (0, (j1, ())))), (0, (71, ()))), ())
              else some (((5, (ByteArray.extract s0 (Int.toNat j1) (Int.toNat (IntKind.wrap IntKind.i64 (j1 + 1))), (0, (j1, ())))), (IntKind.wrap IntKind.i64 (j1 + 1), (0, ()))), ())
            else none
          else none
        else none
      else some (((0, (ByteArray.mk #[], (0, (j1, ())))), (0, (70, ()))), ())
    else none
  else none := by kernel_rfl
theorem lex_one_c (n : Nat) (s0 : ByteArray) (j1 : Int) (y : ((Int × ByteArray × Int × Int × Unit) × Int × Int × Unit) × Unit) (h : lex_one_v n s0 j1 = some y) : Contract Tryd.prog 70 [AV.dv (DV.val (Value.string s0)), AV.dv (DV.val (Value.int IntKind.i64 j1))] [] (OSh.enc (OSh.plain (.tup [.agg [.i IntKind.i64, .s, .i IntKind.i64, .i IntKind.i64], .i IntKind.i64, .i IntKind.i64]) []) y) :=
  auto_okM tm_std (with_ok mixed (by kernel_rfl) (lex_one_σok n) n 0 []) (with_pick mixed (by kernel_rfl) (lex_one_σok n) n 0 []) mixed Tryd.func70 (by decide) (o := (OSh.plain (.tup [.agg [.i IntKind.i64, .s, .i IntKind.i64, .i IntKind.i64], .i IntKind.i64, .i IntKind.i64]) [])) h
/-! lex_Tokens: function 50 -/
def lex_Tokens_lv : Live := [(4, [0, 2, 3], [1000, 1001, 1002, 1003])]
noncomputable def lex_Tokens_σ (n : Nat) : Spec := (inst 69 [.s, .i IntKind.i64] [] (OSh.plain (.i IntKind.i64) []) (fun x e => lex_skip_v n x.1 x.2.1) (inst 70 [.s, .i IntKind.i64] [] (OSh.plain (.tup [.agg [.i IntKind.i64, .s, .i IntKind.i64, .i IntKind.i64], .i IntKind.i64, .i IntKind.i64]) []) (fun x e => lex_one_v n x.1 x.2.1) Spec.none))
theorem lex_Tokens_σok (n : Nat) : SpecOk Tryd.prog (lex_Tokens_σ n) := (inst_ok (fun x e y h => lex_skip_c n x.1 x.2.1 y h) (inst_ok (fun x e y h => lex_one_c n x.1 x.2.1 y h) (SpecOk.none _)))
noncomputable def lex_Tokens_Φ (n : Nat) : Orc := with_ Tryd.prog (lex_Tokens_σ n) [] n 0 []
noncomputable def lex_Tokens_v (n : Nat) (s0 : ByteArray) : Option (((Bool × Rows) × Int × Int × Unit) × Unit) :=
  DM.denFn tm (lex_Tokens_Φ n) lex_Tokens_lv n Tryd.f50 false [AV.dv (DV.val (Value.string s0))] [] (OSh.chk (OSh.plain (.tup [.sl [Kd.i IntKind.i64, Kd.s, Kd.i IntKind.i64, Kd.i IntKind.i64], .i IntKind.i64, .i IntKind.i64]) []))
noncomputable def lex_Tokens_l4 (n : Nat) (s0 : ByteArray) (i0 : Nat) (j2 : Int) (b5 : Bool) (r6 : List (List DV)) : Option (((Bool × Rows) × Int × Int × Unit) × Unit) :=
  DM.loopFn tm (lex_Tokens_Φ n) lex_Tokens_lv n Tryd.f50 false [] (OSh.chk (OSh.plain (.tup [.sl [Kd.i IntKind.i64, Kd.s, Kd.i IntKind.i64, Kd.i IntKind.i64], .i IntKind.i64, .i IntKind.i64]) [])) 4 [] i0 (St.mk [AV.dv (DV.val (Value.string s0)), AV.junk, AV.sl b5 [Kd.i IntKind.i64, Kd.s, Kd.i IntKind.i64, Kd.i IntKind.i64] r6 (Right.tok 2), AV.dv (DV.val (Value.int IntKind.i64 j2)), AV.junk, AV.junk, AV.junk, AV.junk, AV.junk, AV.junk, AV.junk, AV.junk, AV.junk, AV.junk, AV.junk, AV.junk, AV.junk, AV.junk, AV.junk, AV.junk, AV.junk, AV.junk, AV.junk, AV.junk, AV.junk, AV.junk, AV.junk, AV.junk, AV.junk, AV.junk, AV.junk, AV.junk, AV.junk, AV.junk, AV.junk, AV.junk] [])
theorem lex_Tokens_s4 (n : Nat) (s0 : ByteArray) (i0 : Nat) (j2 : Int) (b5 : Bool) (r6 : List (List DV)) : lex_Tokens_l4 n s0 (i0 + 1) j2 b5 r6 =
  bif decide (j2 < (↑(ByteArray.size s0) : Int)) then
    obind (lex_one_v n s0 j2) fun y7 =>
    bif y7.fst.snd.snd.fst != 0 then
      some (((true, []), (j2, (y7.fst.snd.snd.fst, ()))), ())
    else if (List.length r6 + List.length [[DV.val (Value.int IntKind.i64 y7.fst.fst.fst), DV.val (Value.string y7.fst.fst.snd.fst), DV.val (Value.int IntKind.i64 y7.fst.fst.snd.snd.fst), DV.val (Value.int IntKind.i64 y7.fst.fst.snd.snd.snd.fst)]]) * 40 ≤ 140737488355328 then
      obind (lex_skip_v n s0 y7.fst.snd.fst) fun y8 =>
      lex_Tokens_l4 n s0 i0 y8.fst (b5 && List.isEmpty [[DV.val (Value.int IntKind.i64 y7.fst.fst.fst), DV.val (Value.string y7.fst.fst.snd.fst), DV.val (Value.int IntKind.i64 y7.fst.fst.snd.snd.fst), DV.val (Value.int IntKind.i64 y7.fst.fst.snd.snd.snd.fst)]]) (appX r6 [[DV.val (Value.int IntKind.i64 y7.fst.fst.fst), DV.val (Value.string y7.fst.fst.snd.fst), DV.val (Value.int IntKind.i64 y7.fst.fst.snd.snd.fst), DV.val (Value.int IntKind.i64 y7.fst.fst.snd.snd.snd.fst)]])
    else none
  else some (((b5, r6), (0, (0, ()))), ()) := by kernel_rfl
theorem lex_Tokens_e (n : Nat) (s0 : ByteArray) : lex_Tokens_v n s0 =
  bif decide ((↑(ByteArray.size s0) : Int) > 4096) then
    some (((true, []), (0, (3, ()))), ())
  else obind (lex_skip_v n s0 0) fun y1 =>
  lex_Tokens_l4 n s0 n y1.fst true [] := by kernel_rfl
theorem lex_Tokens_c (n : Nat) (s0 : ByteArray) (y : ((Bool × Rows) × Int × Int × Unit) × Unit) (h : lex_Tokens_v n s0 = some y) : Contract Tryd.prog 50 [AV.dv (DV.val (Value.string s0))] [] (OSh.enc (OSh.plain (.tup [.sl [Kd.i IntKind.i64, Kd.s, Kd.i IntKind.i64, Kd.i IntKind.i64], .i IntKind.i64, .i IntKind.i64]) []) y) :=
  auto_okM tm_std (with_ok mixed (by kernel_rfl) (lex_Tokens_σok n) n 0 []) (with_pick mixed (by kernel_rfl) (lex_Tokens_σok n) n 0 []) mixed Tryd.func50 (by decide) (o := (OSh.plain (.tup [.sl [Kd.i IntKind.i64, Kd.s, Kd.i IntKind.i64, Kd.i IntKind.i64], .i IntKind.i64, .i IntKind.i64]) [])) h
/-! show_variable: function 34 -/
def show_variable_lv : Live := []
noncomputable def show_variable_σ (n : Nat) : Spec := (inst 50 [.s] [] (OSh.plain (.tup [.sl [Kd.i IntKind.i64, Kd.s, Kd.i IntKind.i64, Kd.i IntKind.i64], .i IntKind.i64, .i IntKind.i64]) []) (fun x e => lex_Tokens_v n x.1) Spec.none)
theorem show_variable_σok (n : Nat) : SpecOk Tryd.prog (show_variable_σ n) := (inst_ok (fun x e y h => lex_Tokens_c n x.1 y h) (SpecOk.none _))
noncomputable def show_variable_Φ (n : Nat) : Orc := with_ Tryd.prog (show_variable_σ n) [] n 0 []
noncomputable def show_variable_v (n : Nat) (s0 : ByteArray) : Option (Bool × Unit) :=
  DM.denFn tm (show_variable_Φ n) show_variable_lv n Tryd.f34 false [AV.dv (DV.val (Value.string s0))] [] (OSh.chk (OSh.plain (.b) []))
theorem show_variable_e (n : Nat) (s0 : ByteArray) : show_variable_v n s0 =
  obind (lex_Tokens_v n s0) fun y1 =>
  bif y1.fst.snd.snd.fst == 0 then
    bif (↑(List.length y1.fst.fst.snd) : Int) == 1 then
      if 0 < (↑(List.length y1.fst.fst.snd) : Int) then
        bif Row.I (List.getD y1.fst.fst.snd 0 []) 0 == 2 then
          if 0 < (↑(List.length y1.fst.fst.snd) : Int) then
            some (Row.S (List.getD y1.fst.fst.snd 0 []) 1 == s0, ())
          else none
        else some (false, ())
      else none
    else some (false, ())
  else some (false, ()) := by kernel_rfl
theorem show_variable_c (n : Nat) (s0 : ByteArray) (y : Bool × Unit) (h : show_variable_v n s0 = some y) : Contract Tryd.prog 34 [AV.dv (DV.val (Value.string s0))] [] (OSh.enc (OSh.plain (.b) []) y) :=
  auto_okM tm_std (with_ok mixed (by kernel_rfl) (show_variable_σok n) n 0 []) (with_pick mixed (by kernel_rfl) (show_variable_σok n) n 0 []) mixed Tryd.func34 (by decide) (o := (OSh.plain (.b) [])) h
/-! show_plain: function 36 -/
def show_plain_lv : Live := [(2, [0, 5, 6], [1000, 1001, 1002, 1003])]
noncomputable def show_plain_σ (n : Nat) : Spec := Spec.none
theorem show_plain_σok (n : Nat) : SpecOk Tryd.prog (show_plain_σ n) := (SpecOk.none _)
noncomputable def show_plain_Φ (n : Nat) : Orc := with_ Tryd.prog (show_plain_σ n) [] n 0 []
noncomputable def show_plain_v (n : Nat) (s0 : ByteArray) : Option (Bool × Unit) :=
  DM.denFn tm (show_plain_Φ n) show_plain_lv n Tryd.f36 false [AV.dv (DV.val (Value.string s0))] [] (OSh.chk (OSh.plain (.b) []))
noncomputable def show_plain_l2 (n : Nat) (s0 : ByteArray) (i0 : Nat) (j1 : Int) : Option (Bool × Unit) :=
  DM.loopFn tm (show_plain_Φ n) show_plain_lv n Tryd.f36 false [] (OSh.chk (OSh.plain (.b) [])) 2 [] i0 (St.mk [AV.dv (DV.val (Value.string s0)), AV.junk, AV.junk, AV.junk, AV.junk, AV.dv (DV.val (Value.int IntKind.i64 (↑(ByteArray.size s0) : Int))), AV.dv (DV.val (Value.int IntKind.i64 j1)), AV.junk, AV.junk, AV.junk, AV.junk, AV.junk, AV.junk, AV.junk, AV.junk, AV.junk, AV.junk, AV.junk, AV.junk, AV.junk, AV.junk, AV.junk, AV.junk, AV.junk, AV.junk, AV.junk, AV.junk, AV.junk, AV.junk, AV.junk, AV.junk, AV.junk, AV.junk, AV.junk, AV.junk, AV.junk, AV.junk, AV.junk, AV.junk, AV.junk] [])
theorem show_plain_s2 (n : Nat) (s0 : ByteArray) (i0 : Nat) (j1 : Int) : show_plain_l2 n s0 (i0 + 1) j1 =
  bif decide (j1 < (↑(ByteArray.size s0) : Int)) then
    if 0 ≤ j1 then
      if j1 < (↑(ByteArray.size s0) : Int) then
        bif decide (bt s0 j1 < 32) then
          some (false, ())
        else if 0 ≤ j1 then
          if j1 < (↑(ByteArray.size s0) : Int) then
            bif decide (bt s0 j1 > 126) then
              some (false, ())
            else if 0 ≤ j1 then
              if j1 < (↑(ByteArray.size s0) : Int) then
                bif bt s0 j1 == 34 then
                  some (false, ())
                else if 0 ≤ j1 then
                  if j1 < (↑(ByteArray.size s0) : Int) then
                    bif bt s0 j1 == 92 then
                      some (false, ())
                    else show_plain_l2 n s0 i0 (IntKind.wrap IntKind.i64 (j1 + 1))
                  else none
                else none
              else none
            else none
          else none
        else none
      else none
    else none
  else bif decide ((↑(ByteArray.size s0) : Int) ≥ 1) then
    some (decide ((↑(ByteArray.size s0) : Int) ≤ 32), ())
  else some (false, ()) := by kernel_rfl
theorem show_plain_e (n : Nat) (s0 : ByteArray) : show_plain_v n s0 =
  show_plain_l2 n s0 n 0 := by kernel_rfl
theorem show_plain_c (n : Nat) (s0 : ByteArray) (y : Bool × Unit) (h : show_plain_v n s0 = some y) : Contract Tryd.prog 36 [AV.dv (DV.val (Value.string s0))] [] (OSh.enc (OSh.plain (.b) []) y) :=
  auto_okM tm_std (with_ok mixed (by kernel_rfl) (show_plain_σok n) n 0 []) (with_pick mixed (by kernel_rfl) (show_plain_σok n) n 0 []) mixed Tryd.func36 (by decide) (o := (OSh.plain (.b) [])) h
/-! show_word: function 37 -/
def show_word_lv : Live := []
noncomputable def show_word_σ (n : Nat) : Spec := (inst 50 [.s] [] (OSh.plain (.tup [.sl [Kd.i IntKind.i64, Kd.s, Kd.i IntKind.i64, Kd.i IntKind.i64], .i IntKind.i64, .i IntKind.i64]) []) (fun x e => lex_Tokens_v n x.1) Spec.none)
theorem show_word_σok (n : Nat) : SpecOk Tryd.prog (show_word_σ n) := (inst_ok (fun x e y h => lex_Tokens_c n x.1 y h) (SpecOk.none _))
noncomputable def show_word_Φ (n : Nat) : Orc := with_ Tryd.prog (show_word_σ n) [] n 0 []
noncomputable def show_word_v (n : Nat) (s0 : ByteArray) : Option (Bool × Unit) :=
  DM.denFn tm (show_word_Φ n) show_word_lv n Tryd.f37 false [AV.dv (DV.val (Value.string s0))] [] (OSh.chk (OSh.plain (.b) []))
theorem show_word_e (n : Nat) (s0 : ByteArray) : show_word_v n s0 =
  obind (lex_Tokens_v n s0) fun y1 =>
  bif y1.fst.snd.snd.fst == 0 then
    bif (↑(List.length y1.fst.fst.snd) : Int) == 1 then
      if 0 < (↑(List.length y1.fst.fst.snd) : Int) then
        bif Row.I (List.getD y1.fst.fst.snd 0 []) 0 == 1 then
          if 0 < (↑(List.length y1.fst.fst.snd) : Int) then
            bif Row.S (List.getD y1.fst.fst.snd 0 []) 1 == s0 then
              bif !s0 == ByteArray.mk #[115, 97, 121, 115] then
                bif !s0 == ByteArray.mk #[116, 111] then
                  some (!s0 == ByteArray.mk #[97, 116], ())
                else some (false, ())
              else some (false, ())
            else some (false, ())
          else none
        else some (false, ())
      else none
    else some (false, ())
  else some (false, ()) := by kernel_rfl
theorem show_word_c (n : Nat) (s0 : ByteArray) (y : Bool × Unit) (h : show_word_v n s0 = some y) : Contract Tryd.prog 37 [AV.dv (DV.val (Value.string s0))] [] (OSh.enc (OSh.plain (.b) []) y) :=
  auto_okM tm_std (with_ok mixed (by kernel_rfl) (show_word_σok n) n 0 []) (with_pick mixed (by kernel_rfl) (show_word_σok n) n 0 []) mixed Tryd.func37 (by decide) (o := (OSh.plain (.b) [])) h
end Go.Den
