import Derived.Test.YtlpnccpagikioaaDoorH09
set_option linter.unusedVariables false
set_option linter.unusedSimpArgs false
set_option linter.unusedSectionVars false
namespace Go.Den
open Go.Proofs
set_option maxRecDepth 100000
/-! show_Term: function 13 -/
def show_Term_lv : Live := []
noncomputable def show_Term_σ (n : Nat) : Spec := (inst 34 [.s] [] (OSh.plain (.b) []) (fun x e => show_variable_v n x.1) (inst 35 [.i IntKind.i64] [] (OSh.plain (.s) []) (fun x e => strconv_Itoa_v n x.1) (inst 36 [.s] [] (OSh.plain (.b) []) (fun x e => show_plain_v n x.1) (inst 37 [.s] [] (OSh.plain (.b) []) (fun x e => show_word_v n x.1) Spec.none))))
theorem show_Term_σok (n : Nat) : SpecOk Tryd.prog (show_Term_σ n) := (inst_ok (fun x e y h => show_variable_c n x.1 y h) (inst_ok (fun x e y h => strconv_Itoa_c n x.1 y h) (inst_ok (fun x e y h => show_plain_c n x.1 y h) (inst_ok (fun x e y h => show_word_c n x.1 y h) (SpecOk.none _)))))
noncomputable def show_Term_Φ (n : Nat) : Orc := with_ Tryd.prog (show_Term_σ n) [] n 0 []
noncomputable def show_Term_v (n : Nat) (s0 : ByteArray) (b1 : Bool) (j2 : Int) (s3 : ByteArray) : Option ((ByteArray × Int × Unit) × Unit) :=
  DM.denFn tm (show_Term_Φ n) show_Term_lv n Tryd.f13 false [AV.agg [AV.dv (DV.val (Value.string s0)), AV.dv (DV.val (Value.bool b1)), AV.dv (DV.val (Value.int IntKind.i64 j2)), AV.dv (DV.val (Value.string s3))]] [] (OSh.chk (OSh.plain (.tup [.s, .i IntKind.i64]) []))
theorem show_Term_e (n : Nat) (s0 : ByteArray) (b1 : Bool) (j2 : Int) (s3 : ByteArray) : show_Term_v n s0 b1 j2 s3 =
  bif !s0 == ByteArray.mk #[] then
    bif !(b1 == false && (j2 == 0 && (s3 == ByteArray.mk #[] && true))) then
      some ((ByteArray.mk #[], (100, ())), ())
    else obind (show_variable_v n s0) fun y4 =>
    bif !y4.fst then
      some ((ByteArray.mk #[], (100, ())), ())
    else some ((s0, (0, ())), ())
  else bif b1 then
    bif s3 == ByteArray.mk #[] then
      obind (strconv_Itoa_v n j2) fun y5 =>
      some ((y5.fst, (0, ())), ())
    else bif b1 then
      some ((ByteArray.mk #[], (100, ())), ())
    else bif j2 != 0 then
      some ((ByteArray.mk #[], (100, ())), ())
    else obind (show_plain_v n s3) fun y6 =>
    bif !y6.fst then
      some ((ByteArray.mk #[], (100, ())), ())
    else obind (show_word_v n s3) fun y7 =>
    bif y7.fst then
      some ((s3, (0, ())), ())
    else if 1 + ByteArray.size s3 < 4611686018427387904 then
      if ByteArray.size (ByteArray.mk #[34] ++ s3) + 1 < 4611686018427387904 then
        some ((ByteArray.mk #[34] ++ s3 ++ ByteArray.mk #[34], (0, ())), ())
      else none
    else none
  else bif b1 then
    some ((ByteArray.mk #[], (100, ())), ())
  else bif j2 != 0 then
    some ((ByteArray.mk #[], (100, ())), ())
  else obind (show_plain_v n s3) fun y8 =>
  bif !y8.fst then
    some ((ByteArray.mk #[], (100, ())), ())
  else obind (show_word_v n s3) fun y9 =>
  bif y9.fst then
    some ((s3, (0, ())), ())
  else if 1 + ByteArray.size s3 < 4611686018427387904 then
    if ByteArray.size (ByteArray.mk #[34] ++ s3) + 1 < 4611686018427387904 then
      some ((ByteArray.mk #[34] ++ s3 ++ ByteArray.mk #[34], (0, ())), ())
    else none
  else none := by kernel_rfl
theorem show_Term_c (n : Nat) (s0 : ByteArray) (b1 : Bool) (j2 : Int) (s3 : ByteArray) (y : (ByteArray × Int × Unit) × Unit) (h : show_Term_v n s0 b1 j2 s3 = some y) : Contract Tryd.prog 13 [AV.agg [AV.dv (DV.val (Value.string s0)), AV.dv (DV.val (Value.bool b1)), AV.dv (DV.val (Value.int IntKind.i64 j2)), AV.dv (DV.val (Value.string s3))]] [] (OSh.enc (OSh.plain (.tup [.s, .i IntKind.i64]) []) y) :=
  auto_okM tm_std (with_ok mixed (by kernel_rfl) (show_Term_σok n) n 0 []) (with_pick mixed (by kernel_rfl) (show_Term_σok n) n 0 []) mixed Tryd.func13 (by decide) (o := (OSh.plain (.tup [.s, .i IntKind.i64]) [])) h
/-! law09_live: function 12 -/
def law09_live_lv : Live := []
noncomputable def law09_live_σ (n : Nat) : Spec := (inst 13 [.agg [.s, .b, .i IntKind.i64, .s]] [] (OSh.plain (.tup [.s, .i IntKind.i64]) []) (fun x e => show_Term_v n x.1.1 x.1.2.1 x.1.2.2.1 x.1.2.2.2.1) Spec.none)
theorem law09_live_σok (n : Nat) : SpecOk Tryd.prog (law09_live_σ n) := (inst_ok (fun x e y h => show_Term_c n x.1.1 x.1.2.1 x.1.2.2.1 x.1.2.2.2.1 y h) (SpecOk.none _))
noncomputable def law09_live_Φ (n : Nat) : Orc := with_ Tryd.prog (law09_live_σ n) [] n 0 []
noncomputable def law09_live_v (n : Nat) : Option (Bool × Unit) :=
  DM.denFn tm (law09_live_Φ n) law09_live_lv n Tryd.f12 false [] [] (OSh.chk (OSh.plain (.b) []))
theorem law09_live_e (n : Nat) : law09_live_v n =
  obind (show_Term_v n (ByteArray.mk #[]) false 0 (ByteArray.mk #[84, 111])) fun y0 =>
  obind (show_Term_v n (ByteArray.mk #[]) false 0 (ByteArray.mk #[98])) fun y1 =>
  obind (show_Term_v n (ByteArray.mk #[]) false 0 (ByteArray.mk #[])) fun y2 =>
  bif y0.fst.fst == ByteArray.mk #[34, 84, 111, 34] then
    bif y0.fst.snd.fst == 0 then
      bif y1.fst.fst == ByteArray.mk #[98] then
        bif y1.fst.snd.fst == 0 then
          some (y2.fst.snd.fst == 100, ())
        else some (false, ())
      else some (false, ())
    else some (false, ())
  else some (false, ()) := by kernel_rfl
theorem law09_live_c (n : Nat) (y : Bool × Unit) (h : law09_live_v n = some y) : Contract Tryd.prog 12 [] [] (OSh.enc (OSh.plain (.b) []) y) :=
  auto_okM tm_std (with_ok mixed (by kernel_rfl) (law09_live_σok n) n 0 []) (with_pick mixed (by kernel_rfl) (law09_live_σok n) n 0 []) mixed Tryd.func12 (by decide) (o := (OSh.plain (.b) [])) h
/-! ref09_letter: function 65 -/
def ref09_letter_lv : Live := []
noncomputable def ref09_letter_σ (n : Nat) : Spec := Spec.none
theorem ref09_letter_σok (n : Nat) : SpecOk Tryd.prog (ref09_letter_σ n) := (SpecOk.none _)
noncomputable def ref09_letter_Φ (n : Nat) : Orc := with_ Tryd.prog (ref09_letter_σ n) [] n 0 []
noncomputable def ref09_letter_v (n : Nat) (j0 : Int) (j1 : Int) (j2 : Int) : Option (Bool × Unit) :=
  DM.denFn tm (ref09_letter_Φ n) ref09_letter_lv n Tryd.f65 false [AV.dv (DV.val (Value.int IntKind.u8 j0)), AV.dv (DV.val (Value.int IntKind.u8 j1)), AV.dv (DV.val (Value.int IntKind.u8 j2))] [] (OSh.chk (OSh.plain (.b) []))
theorem ref09_letter_e (n : Nat) (j0 : Int) (j1 : Int) (j2 : Int) : ref09_letter_v n j0 j1 j2 =
  bif decide (j0 ≥ j1) then
    some (decide (j0 ≤ j2), ())
  else some (false, ()) := by kernel_rfl
theorem ref09_letter_c (n : Nat) (j0 : Int) (j1 : Int) (j2 : Int) (y : Bool × Unit) (h : ref09_letter_v n j0 j1 j2 = some y) : Contract Tryd.prog 65 [AV.dv (DV.val (Value.int IntKind.u8 j0)), AV.dv (DV.val (Value.int IntKind.u8 j1)), AV.dv (DV.val (Value.int IntKind.u8 j2))] [] (OSh.enc (OSh.plain (.b) []) y) :=
  auto_okM tm_std (with_ok mixed (by kernel_rfl) (ref09_letter_σok n) n 0 []) (with_pick mixed (by kernel_rfl) (ref09_letter_σok n) n 0 []) mixed Tryd.func65 (by decide) (o := (OSh.plain (.b) [])) h
/-! ref07_small: function 87 -/
def ref07_small_lv : Live := []
noncomputable def ref07_small_σ (n : Nat) : Spec := Spec.none
theorem ref07_small_σok (n : Nat) : SpecOk Tryd.prog (ref07_small_σ n) := (SpecOk.none _)
noncomputable def ref07_small_Φ (n : Nat) : Orc := with_ Tryd.prog (ref07_small_σ n) [] n 0 []
noncomputable def ref07_small_v (n : Nat) (j0 : Int) : Option (Bool × Unit) :=
  DM.denFn tm (ref07_small_Φ n) ref07_small_lv n Tryd.f87 false [AV.dv (DV.val (Value.int IntKind.u8 j0))] [] (OSh.chk (OSh.plain (.b) []))
theorem ref07_small_e (n : Nat) (j0 : Int) : ref07_small_v n j0 =
  bif decide (j0 ≥ 97) then
    some (decide (j0 ≤ 122), ())
  else some (false, ()) := by kernel_rfl
theorem ref07_small_c (n : Nat) (j0 : Int) (y : Bool × Unit) (h : ref07_small_v n j0 = some y) : Contract Tryd.prog 87 [AV.dv (DV.val (Value.int IntKind.u8 j0))] [] (OSh.enc (OSh.plain (.b) []) y) :=
  auto_okM tm_std (with_ok mixed (by kernel_rfl) (ref07_small_σok n) n 0 []) (with_pick mixed (by kernel_rfl) (ref07_small_σok n) n 0 []) mixed Tryd.func87 (by decide) (o := (OSh.plain (.b) [])) h
/-! ref07_great: function 88 -/
def ref07_great_lv : Live := []
noncomputable def ref07_great_σ (n : Nat) : Spec := Spec.none
theorem ref07_great_σok (n : Nat) : SpecOk Tryd.prog (ref07_great_σ n) := (SpecOk.none _)
noncomputable def ref07_great_Φ (n : Nat) : Orc := with_ Tryd.prog (ref07_great_σ n) [] n 0 []
noncomputable def ref07_great_v (n : Nat) (j0 : Int) : Option (Bool × Unit) :=
  DM.denFn tm (ref07_great_Φ n) ref07_great_lv n Tryd.f88 false [AV.dv (DV.val (Value.int IntKind.u8 j0))] [] (OSh.chk (OSh.plain (.b) []))
theorem ref07_great_e (n : Nat) (j0 : Int) : ref07_great_v n j0 =
  bif decide (j0 ≥ 65) then
    some (decide (j0 ≤ 90), ())
  else some (false, ()) := by kernel_rfl
theorem ref07_great_c (n : Nat) (j0 : Int) (y : Bool × Unit) (h : ref07_great_v n j0 = some y) : Contract Tryd.prog 88 [AV.dv (DV.val (Value.int IntKind.u8 j0))] [] (OSh.enc (OSh.plain (.b) []) y) :=
  auto_okM tm_std (with_ok mixed (by kernel_rfl) (ref07_great_σok n) n 0 []) (with_pick mixed (by kernel_rfl) (ref07_great_σok n) n 0 []) mixed Tryd.func88 (by decide) (o := (OSh.plain (.b) [])) h
/-! ref07_digit: function 89 -/
def ref07_digit_lv : Live := []
noncomputable def ref07_digit_σ (n : Nat) : Spec := Spec.none
theorem ref07_digit_σok (n : Nat) : SpecOk Tryd.prog (ref07_digit_σ n) := (SpecOk.none _)
noncomputable def ref07_digit_Φ (n : Nat) : Orc := with_ Tryd.prog (ref07_digit_σ n) [] n 0 []
noncomputable def ref07_digit_v (n : Nat) (j0 : Int) : Option (Bool × Unit) :=
  DM.denFn tm (ref07_digit_Φ n) ref07_digit_lv n Tryd.f89 false [AV.dv (DV.val (Value.int IntKind.u8 j0))] [] (OSh.chk (OSh.plain (.b) []))
theorem ref07_digit_e (n : Nat) (j0 : Int) : ref07_digit_v n j0 =
  bif decide (j0 ≥ 48) then
    some (decide (j0 ≤ 57), ())
  else some (false, ()) := by kernel_rfl
theorem ref07_digit_c (n : Nat) (j0 : Int) (y : Bool × Unit) (h : ref07_digit_v n j0 = some y) : Contract Tryd.prog 89 [AV.dv (DV.val (Value.int IntKind.u8 j0))] [] (OSh.enc (OSh.plain (.b) []) y) :=
  auto_okM tm_std (with_ok mixed (by kernel_rfl) (ref07_digit_σok n) n 0 []) (with_pick mixed (by kernel_rfl) (ref07_digit_σok n) n 0 []) mixed Tryd.func89 (by decide) (o := (OSh.plain (.b) [])) h
/-! ref07_Inner: function 66 -/
def ref07_Inner_lv : Live := []
noncomputable def ref07_Inner_σ (n : Nat) : Spec := (inst 87 [.i IntKind.u8] [] (OSh.plain (.b) []) (fun x e => ref07_small_v n x.1) (inst 88 [.i IntKind.u8] [] (OSh.plain (.b) []) (fun x e => ref07_great_v n x.1) (inst 89 [.i IntKind.u8] [] (OSh.plain (.b) []) (fun x e => ref07_digit_v n x.1) Spec.none)))
theorem ref07_Inner_σok (n : Nat) : SpecOk Tryd.prog (ref07_Inner_σ n) := (inst_ok (fun x e y h => ref07_small_c n x.1 y h) (inst_ok (fun x e y h => ref07_great_c n x.1 y h) (inst_ok (fun x e y h => ref07_digit_c n x.1 y h) (SpecOk.none _))))
noncomputable def ref07_Inner_Φ (n : Nat) : Orc := with_ Tryd.prog (ref07_Inner_σ n) [] n 0 []
noncomputable def ref07_Inner_v (n : Nat) (j0 : Int) : Option (Bool × Unit) :=
  DM.denFn tm (ref07_Inner_Φ n) ref07_Inner_lv n Tryd.f66 false [AV.dv (DV.val (Value.int IntKind.u8 j0))] [] (OSh.chk (OSh.plain (.b) []))
theorem ref07_Inner_e (n : Nat) (j0 : Int) : ref07_Inner_v n j0 =
  obind (ref07_small_v n j0) fun y1 =>
  bif y1.fst then
    some (true, ())
  else obind (ref07_great_v n j0) fun y2 =>
  bif y2.fst then
    some (true, ())
  else obind (ref07_digit_v n j0) fun y3 =>
  bif y3.fst then
    some (true, ())
  else some (j0 == 95, ()) := by kernel_rfl
theorem ref07_Inner_c (n : Nat) (j0 : Int) (y : Bool × Unit) (h : ref07_Inner_v n j0 = some y) : Contract Tryd.prog 66 [AV.dv (DV.val (Value.int IntKind.u8 j0))] [] (OSh.enc (OSh.plain (.b) []) y) :=
  auto_okM tm_std (with_ok mixed (by kernel_rfl) (ref07_Inner_σok n) n 0 []) (with_pick mixed (by kernel_rfl) (ref07_Inner_σok n) n 0 []) mixed Tryd.func66 (by decide) (o := (OSh.plain (.b) [])) h
/-! ref09_named: function 38 -/
def ref09_named_lv : Live := [(4, [0, 7], [1000, 1001, 1002, 1003])]
noncomputable def ref09_named_σ (n : Nat) : Spec := (inst 65 [.i IntKind.u8, .i IntKind.u8, .i IntKind.u8] [] (OSh.plain (.b) []) (fun x e => ref09_letter_v n x.1 x.2.1 x.2.2.1) (inst 66 [.i IntKind.u8] [] (OSh.plain (.b) []) (fun x e => ref07_Inner_v n x.1) Spec.none))
theorem ref09_named_σok (n : Nat) : SpecOk Tryd.prog (ref09_named_σ n) := (inst_ok (fun x e y h => ref09_letter_c n x.1 x.2.1 x.2.2.1 y h) (inst_ok (fun x e y h => ref07_Inner_c n x.1 y h) (SpecOk.none _)))
noncomputable def ref09_named_Φ (n : Nat) : Orc := with_ Tryd.prog (ref09_named_σ n) [] n 0 []
noncomputable def ref09_named_v (n : Nat) (s0 : ByteArray) (j1 : Int) (j2 : Int) : Option (Bool × Unit) :=
  DM.denFn tm (ref09_named_Φ n) ref09_named_lv n Tryd.f38 false [AV.dv (DV.val (Value.string s0)), AV.dv (DV.val (Value.int IntKind.u8 j1)), AV.dv (DV.val (Value.int IntKind.u8 j2))] [] (OSh.chk (OSh.plain (.b) []))
noncomputable def ref09_named_l4 (n : Nat) (s0 : ByteArray) (j1 : Int) (j2 : Int) (i0 : Nat) (j5 : Int) : Option (Bool × Unit) :=
  DM.loopFn tm (ref09_named_Φ n) ref09_named_lv n Tryd.f38 false [] (OSh.chk (OSh.plain (.b) [])) 4 [] i0 (St.mk [AV.dv (DV.val (Value.string s0)), AV.junk, AV.junk, AV.junk, AV.junk, AV.junk, AV.junk, AV.dv (DV.val (Value.int IntKind.i64 j5)), AV.junk, AV.junk, AV.junk, AV.junk, AV.junk, AV.junk, AV.junk, AV.junk, AV.junk, AV.junk, AV.junk, AV.junk, AV.junk, AV.junk, AV.junk, AV.junk, AV.junk, AV.junk, AV.junk, AV.junk, AV.junk, AV.junk, AV.junk, AV.junk, AV.junk, AV.junk, AV.junk] [])
theorem ref09_named_s4 (n : Nat) (s0 : ByteArray) (j1 : Int) (j2 : Int) (i0 : Nat) (j5 : Int) : ref09_named_l4 n s0 j1 j2 (i0 + 1) j5 =
  bif decide (j5 < (↑(ByteArray.size s0) : Int)) then
    if 0 ≤ j5 then
      if j5 < (↑(ByteArray.size s0) : Int) then
        obind (ref07_Inner_v n (bt s0 j5)) fun y6 =>
        bif !y6.fst then
          some (false, ())
        else ref09_named_l4 n s0 j1 j2 i0 (IntKind.wrap IntKind.i64 (j5 + 1))
      else none
    else none
  else some (true, ()) := by kernel_rfl
theorem ref09_named_e (n : Nat) (s0 : ByteArray) (j1 : Int) (j2 : Int) : ref09_named_v n s0 j1 j2 =
  bif decide ((↑(ByteArray.size s0) : Int) < 1) then
    some (false, ())
  else bif decide ((↑(ByteArray.size s0) : Int) > 32) then
    some (false, ())
  else if 0 < (↑(ByteArray.size s0) : Int) then
    obind (ref09_letter_v n (bt s0 0) j1 j2) fun y3 =>
    bif !y3.fst then
      some (false, ())
    else ref09_named_l4 n s0 j1 j2 n 0
  else none := by kernel_rfl
theorem ref09_named_c (n : Nat) (s0 : ByteArray) (j1 : Int) (j2 : Int) (y : Bool × Unit) (h : ref09_named_v n s0 j1 j2 = some y) : Contract Tryd.prog 38 [AV.dv (DV.val (Value.string s0)), AV.dv (DV.val (Value.int IntKind.u8 j1)), AV.dv (DV.val (Value.int IntKind.u8 j2))] [] (OSh.enc (OSh.plain (.b) []) y) :=
  auto_okM tm_std (with_ok mixed (by kernel_rfl) (ref09_named_σok n) n 0 []) (with_pick mixed (by kernel_rfl) (ref09_named_σok n) n 0 []) mixed Tryd.func38 (by decide) (o := (OSh.plain (.b) [])) h
/-! ref09_Digits: function 39 -/
def ref09_Digits_lv : Live := [(3, [0, 3, 4], [1000, 1001, 1002, 1003])]
noncomputable def ref09_Digits_σ (n : Nat) : Spec := Spec.none
theorem ref09_Digits_σok (n : Nat) : SpecOk Tryd.prog (ref09_Digits_σ n) := (SpecOk.none _)
noncomputable def ref09_Digits_Φ (n : Nat) : Orc := with_ Tryd.prog (ref09_Digits_σ n) [] n 0 []
noncomputable def ref09_Digits_v (n : Nat) (j0 : Int) : Option (ByteArray × Unit) :=
  DM.denFn tm (ref09_Digits_Φ n) ref09_Digits_lv n Tryd.f39 false [AV.dv (DV.val (Value.int IntKind.i64 j0))] [] (OSh.chk (OSh.plain (.s) []))
noncomputable def ref09_Digits_l3 (n : Nat) (j0 : Int) (i0 : Nat) (s1 : ByteArray) (j2 : Int) : Option (ByteArray × Unit) :=
  DM.loopFn tm (ref09_Digits_Φ n) ref09_Digits_lv n Tryd.f39 false [] (OSh.chk (OSh.plain (.s) [])) 3 [] i0 (St.mk [AV.dv (DV.val (Value.int IntKind.i64 j0)), AV.junk, AV.junk, AV.dv (DV.val (Value.string s1)), AV.dv (DV.val (Value.int IntKind.i64 j2)), AV.junk, AV.junk, AV.junk, AV.junk, AV.junk, AV.junk, AV.junk, AV.junk, AV.junk, AV.junk, AV.junk, AV.junk, AV.junk, AV.junk, AV.junk, AV.junk, AV.junk, AV.junk, AV.junk, AV.junk, AV.junk, AV.junk, AV.junk, AV.junk, AV.junk, AV.junk, AV.junk, AV.junk] [])
theorem ref09_Digits_s3 (n : Nat) (j0 : Int) (i0 : Nat) (s1 : ByteArray) (j2 : Int) : ref09_Digits_l3 n j0 (i0 + 1) s1 j2 =
  bif j2 != 0 then
    bif decide (Int.tmod j2 10 < 0) then
      if ByteArray.size (bytesOf [[DV.val (Value.int IntKind.u8 (IntKind.wrap IntKind.u8 (IntKind.wrap IntKind.i64 (48 + IntKind.wrap IntKind.i64 (0 - Int.tmod j2 10)))))]]) + ByteArray.size s1 < 4611686018427387904 then
        ref09_Digits_l3 n j0 i0 (bytesOf [[DV.val (Value.int IntKind.u8 (IntKind.wrap IntKind.u8 (IntKind.wrap IntKind.i64 (48 + IntKind.wrap IntKind.i64 (0 - Int.tmod j2 10)))))]] ++ s1) (IntKind.wrap IntKind.i64 (Int.tdiv j2 10))
      else none
    else if ByteArray.size (bytesOf [[DV.val (Value.int IntKind.u8 (IntKind.wrap IntKind.u8 (IntKind.wrap IntKind.i64 (48 + Int.tmod j2 10))))]]) + ByteArray.size s1 < 4611686018427387904 then
      ref09_Digits_l3 n j0 i0 (bytesOf [[DV.val (Value.int IntKind.u8 (IntKind.wrap IntKind.u8 (IntKind.wrap IntKind.i64 (48 + Int.tmod j2 10))))]] ++ s1) (IntKind.wrap IntKind.i64 (Int.tdiv j2 10))
    else none
  else bif s1 == ByteArray.mk #[] then
    bif decide (Int.tmod j2 10 < 0) then
      if ByteArray.size (bytesOf [[DV.val (Value.int IntKind.u8 (IntKind.wrap IntKind.u8 (IntKind.wrap IntKind.i64 (48 + IntKind.wrap IntKind.i64 (0 - Int.tmod j2 10)))))]]) + ByteArray.size s1 < 4611686018427387904 then
        ref09_Digits_l3 n j0 i0 (bytesOf [[DV.val (Value.int IntKind.u8 (IntKind.wrap IntKind.u8 (IntKind.wrap IntKind.i64 (48 + IntKind.wrap IntKind.i64 (0 - Int.tmod j2 10)))))]] ++ s1) (IntKind.wrap IntKind.i64 (Int.tdiv j2 10))
      else none
    else if ByteArray.size (bytesOf [[DV.val (Value.int IntKind.u8 (IntKind.wrap IntKind.u8 (IntKind.wrap IntKind.i64 (48 + Int.tmod j2 10))))]]) + ByteArray.size s1 < 4611686018427387904 then
      ref09_Digits_l3 n j0 i0 (bytesOf [[DV.val (Value.int IntKind.u8 (IntKind.wrap IntKind.u8 (IntKind.wrap IntKind.i64 (48 + Int.tmod j2 10))))]] ++ s1) (IntKind.wrap IntKind.i64 (Int.tdiv j2 10))
    else none
  else bif decide (j0 < 0) then
    if 1 + ByteArray.size s1 < 4611686018427387904 then
      some (ByteArray.mk #[45] ++ s1, ())
    else none
  else some (s1, ()) := by kernel_rfl
theorem ref09_Digits_e (n : Nat) (j0 : Int) : ref09_Digits_v n j0 =
  ref09_Digits_l3 n j0 n (ByteArray.mk #[]) j0 := by kernel_rfl
theorem ref09_Digits_c (n : Nat) (j0 : Int) (y : ByteArray × Unit) (h : ref09_Digits_v n j0 = some y) : Contract Tryd.prog 39 [AV.dv (DV.val (Value.int IntKind.i64 j0))] [] (OSh.enc (OSh.plain (.s) []) y) :=
  auto_okM tm_std (with_ok mixed (by kernel_rfl) (ref09_Digits_σok n) n 0 []) (with_pick mixed (by kernel_rfl) (ref09_Digits_σok n) n 0 []) mixed Tryd.func39 (by decide) (o := (OSh.plain (.s) [])) h
/-! ref07_Plain: function 40 -/
def ref07_Plain_lv : Live := []
noncomputable def ref07_Plain_σ (n : Nat) : Spec := Spec.none
theorem ref07_Plain_σok (n : Nat) : SpecOk Tryd.prog (ref07_Plain_σ n) := (SpecOk.none _)
noncomputable def ref07_Plain_Φ (n : Nat) : Orc := with_ Tryd.prog (ref07_Plain_σ n) [] n 0 []
noncomputable def ref07_Plain_v (n : Nat) (j0 : Int) : Option (Bool × Unit) :=
  DM.denFn tm (ref07_Plain_Φ n) ref07_Plain_lv n Tryd.f40 false [AV.dv (DV.val (Value.int IntKind.u8 j0))] [] (OSh.chk (OSh.plain (.b) []))
theorem ref07_Plain_e (n : Nat) (j0 : Int) : ref07_Plain_v n j0 =
  bif decide (j0 ≥ 32) then
    bif decide (j0 ≤ 126) then
      bif j0 != 34 then
        some (j0 != 92, ())
      else some (false, ())
    else some (false, ())
  else some (false, ()) := by kernel_rfl
theorem ref07_Plain_c (n : Nat) (j0 : Int) (y : Bool × Unit) (h : ref07_Plain_v n j0 = some y) : Contract Tryd.prog 40 [AV.dv (DV.val (Value.int IntKind.u8 j0))] [] (OSh.enc (OSh.plain (.b) []) y) :=
  auto_okM tm_std (with_ok mixed (by kernel_rfl) (ref07_Plain_σok n) n 0 []) (with_pick mixed (by kernel_rfl) (ref07_Plain_σok n) n 0 []) mixed Tryd.func40 (by decide) (o := (OSh.plain (.b) [])) h
/-! ref08_Kept: function 18 -/
def ref08_Kept_lv : Live := []
noncomputable def ref08_Kept_σ (n : Nat) : Spec := Spec.none
theorem ref08_Kept_σok (n : Nat) : SpecOk Tryd.prog (ref08_Kept_σ n) := (SpecOk.none _)
noncomputable def ref08_Kept_Φ (n : Nat) : Orc := with_ Tryd.prog (ref08_Kept_σ n) [] n 0 []
noncomputable def ref08_Kept_v (n : Nat) (s0 : ByteArray) : Option (Bool × Unit) :=
  DM.denFn tm (ref08_Kept_Φ n) ref08_Kept_lv n Tryd.f18 false [AV.dv (DV.val (Value.string s0))] [] (OSh.chk (OSh.plain (.b) []))
theorem ref08_Kept_e (n : Nat) (s0 : ByteArray) : ref08_Kept_v n s0 =
  bif s0 == ByteArray.mk #[115, 97, 121, 115] then
    some (true, ())
  else bif s0 == ByteArray.mk #[116, 111] then
    some (true, ())
  else some (s0 == ByteArray.mk #[97, 116], ()) := by kernel_rfl
theorem ref08_Kept_c (n : Nat) (s0 : ByteArray) (y : Bool × Unit) (h : ref08_Kept_v n s0 = some y) : Contract Tryd.prog 18 [AV.dv (DV.val (Value.string s0))] [] (OSh.enc (OSh.plain (.b) []) y) :=
  auto_okM tm_std (with_ok mixed (by kernel_rfl) (ref08_Kept_σok n) n 0 []) (with_pick mixed (by kernel_rfl) (ref08_Kept_σok n) n 0 []) mixed Tryd.func18 (by decide) (o := (OSh.plain (.b) [])) h
/-! ref09_Word: function 41 -/
def ref09_Word_lv : Live := []
noncomputable def ref09_Word_σ (n : Nat) : Spec := (inst 38 [.s, .i IntKind.u8, .i IntKind.u8] [] (OSh.plain (.b) []) (fun x e => ref09_named_v n x.1 x.2.1 x.2.2.1) (inst 18 [.s] [] (OSh.plain (.b) []) (fun x e => ref08_Kept_v n x.1) Spec.none))
theorem ref09_Word_σok (n : Nat) : SpecOk Tryd.prog (ref09_Word_σ n) := (inst_ok (fun x e y h => ref09_named_c n x.1 x.2.1 x.2.2.1 y h) (inst_ok (fun x e y h => ref08_Kept_c n x.1 y h) (SpecOk.none _)))
noncomputable def ref09_Word_Φ (n : Nat) : Orc := with_ Tryd.prog (ref09_Word_σ n) [] n 0 []
noncomputable def ref09_Word_v (n : Nat) (s0 : ByteArray) : Option (Bool × Unit) :=
  DM.denFn tm (ref09_Word_Φ n) ref09_Word_lv n Tryd.f41 false [AV.dv (DV.val (Value.string s0))] [] (OSh.chk (OSh.plain (.b) []))
theorem ref09_Word_e (n : Nat) (s0 : ByteArray) : ref09_Word_v n s0 =
  obind (ref09_named_v n s0 97 122) fun y1 =>
  bif y1.fst then
    obind (ref08_Kept_v n s0) fun y2 =>
    some (!y2.fst, ())
  else some (false, ()) := by kernel_rfl
theorem ref09_Word_c (n : Nat) (s0 : ByteArray) (y : Bool × Unit) (h : ref09_Word_v n s0 = some y) : Contract Tryd.prog 41 [AV.dv (DV.val (Value.string s0))] [] (OSh.enc (OSh.plain (.b) []) y) :=
  auto_okM tm_std (with_ok mixed (by kernel_rfl) (ref09_Word_σok n) n 0 []) (with_pick mixed (by kernel_rfl) (ref09_Word_σok n) n 0 []) mixed Tryd.func41 (by decide) (o := (OSh.plain (.b) [])) h
/-! ref09_Term: function 14 -/
def ref09_Term_lv : Live := [(13, [4, 5], [4, 1000, 1001, 1002, 1003])]
noncomputable def ref09_Term_σ (n : Nat) : Spec := (inst 38 [.s, .i IntKind.u8, .i IntKind.u8] [] (OSh.plain (.b) []) (fun x e => ref09_named_v n x.1 x.2.1 x.2.2.1) (inst 39 [.i IntKind.i64] [] (OSh.plain (.s) []) (fun x e => ref09_Digits_v n x.1) (inst 40 [.i IntKind.u8] [] (OSh.plain (.b) []) (fun x e => ref07_Plain_v n x.1) (inst 41 [.s] [] (OSh.plain (.b) []) (fun x e => ref09_Word_v n x.1) Spec.none))))
theorem ref09_Term_σok (n : Nat) : SpecOk Tryd.prog (ref09_Term_σ n) := (inst_ok (fun x e y h => ref09_named_c n x.1 x.2.1 x.2.2.1 y h) (inst_ok (fun x e y h => ref09_Digits_c n x.1 y h) (inst_ok (fun x e y h => ref07_Plain_c n x.1 y h) (inst_ok (fun x e y h => ref09_Word_c n x.1 y h) (SpecOk.none _)))))
noncomputable def ref09_Term_Φ (n : Nat) : Orc := with_ Tryd.prog (ref09_Term_σ n) [] n 0 []
noncomputable def ref09_Term_v (n : Nat) (s0 : ByteArray) (b1 : Bool) (j2 : Int) (s3 : ByteArray) : Option ((ByteArray × Int × Unit) × Unit) :=
  DM.denFn tm (ref09_Term_Φ n) ref09_Term_lv n Tryd.f14 false [AV.agg [AV.dv (DV.val (Value.string s0)), AV.dv (DV.val (Value.bool b1)), AV.dv (DV.val (Value.int IntKind.i64 j2)), AV.dv (DV.val (Value.string s3))]] [] (OSh.chk (OSh.plain (.tup [.s, .i IntKind.i64]) []))
noncomputable def ref09_Term_l13 (n : Nat) (s0 : ByteArray) (b1 : Bool) (j2 : Int) (s3 : ByteArray) (i0 : Nat) (j8 : Int) : Option ((ByteArray × Int × Unit) × Unit) :=
  DM.loopFn tm (ref09_Term_Φ n) ref09_Term_lv n Tryd.f14 false [] (OSh.chk (OSh.plain (.tup [.s, .i IntKind.i64]) [])) 13 [] i0 (St.mk [AV.junk, AV.junk, AV.junk, AV.junk, AV.pl 4 0, AV.dv (DV.val (Value.int IntKind.i64 j8)), AV.junk, AV.junk, AV.junk, AV.junk, AV.junk, AV.junk, AV.junk, AV.junk, AV.junk, AV.junk, AV.junk, AV.junk, AV.junk, AV.junk, AV.junk, AV.junk, AV.junk, AV.junk, AV.junk, AV.junk, AV.junk, AV.junk, AV.junk, AV.junk, AV.junk, AV.junk, AV.junk, AV.junk, AV.junk, AV.junk, AV.junk, AV.junk, AV.junk, AV.junk, AV.junk, AV.junk, AV.junk, AV.junk, AV.junk, AV.junk, AV.junk, AV.junk, AV.junk, AV.junk, AV.junk, AV.junk, AV.junk, AV.junk, AV.junk, AV.junk, AV.junk, AV.junk, AV.junk, AV.junk, AV.junk, AV.junk, AV.junk, AV.junk, AV.junk, AV.junk, AV.junk, AV.junk] [(4, [AV.dv (DV.val (Value.bool b1)), AV.dv (DV.val (Value.int IntKind.i64 j2)), AV.dv (DV.val (Value.string s3))])])
theorem ref09_Term_s13 (n : Nat) (s0 : ByteArray) (b1 : Bool) (j2 : Int) (s3 : ByteArray) (i0 : Nat) (j8 : Int) : ref09_Term_l13 n s0 b1 j2 s3 (i0 + 1) j8 =
  bif decide (j8 < (↑(ByteArray.size s3) : Int)) then
    if 0 ≤ j8 then
      if j8 < (↑(ByteArray.size s3) : Int) then
        obind (ref07_Plain_v n (bt s3 j8)) fun y9 =>
        bif !y9.fst then
          some ((ByteArray.mk #[], (100, ())), ())
        else ref09_Term_l13 n s0 b1 j2 s3 i0 (IntKind.wrap IntKind.i64 (j8 + 1))
      else none
    else none
  else obind (ref09_Word_v n s3) fun y10 =>
  bif y10.fst then
    some ((s3, (0, ())), ())
  else if 1 + ByteArray.size s3 < 4611686018427387904 then
    if ByteArray.size (ByteArray.mk #[34] ++ s3) + 1 < 4611686018427387904 then
      some ((ByteArray.mk #[34] ++ s3 ++ ByteArray.mk #[34], (0, ())), ())
    else none
  else none := by kernel_rfl
theorem ref09_Term_e (n : Nat) (s0 : ByteArray) (b1 : Bool) (j2 : Int) (s3 : ByteArray) : ref09_Term_v n s0 b1 j2 s3 =
  bif !s0 == ByteArray.mk #[] then
    bif !(b1 == false && (j2 == 0 && (s3 == ByteArray.mk #[] && true))) then
      some ((ByteArray.mk #[], (100, ())), ())
    else obind (ref09_named_v n s0 65 90) fun y4 =>
    bif !y4.fst then
      some ((ByteArray.mk #[], (100, ())), ())
    else some ((s0, (0, ())), ())
  else bif b1 then
    bif !s3 == ByteArray.mk #[] then
      some ((ByteArray.mk #[], (100, ())), ())
    else obind (ref09_Digits_v n j2) fun y5 =>
    some ((y5.fst, (0, ())), ())
  else bif j2 != 0 then
    some ((ByteArray.mk #[], (100, ())), ())
  else bif decide ((↑(ByteArray.size s3) : Int) < 1) then
    some ((ByteArray.mk #[], (100, ())), ())
  else bif decide ((↑(ByteArray.size s3) : Int) > 32) then
    some ((ByteArray.mk #[], (100, ())), ())
  else ref09_Term_l13 n s0 b1 j2 s3 n 0 := by kernel_rfl
theorem ref09_Term_c (n : Nat) (s0 : ByteArray) (b1 : Bool) (j2 : Int) (s3 : ByteArray) (y : (ByteArray × Int × Unit) × Unit) (h : ref09_Term_v n s0 b1 j2 s3 = some y) : Contract Tryd.prog 14 [AV.agg [AV.dv (DV.val (Value.string s0)), AV.dv (DV.val (Value.bool b1)), AV.dv (DV.val (Value.int IntKind.i64 j2)), AV.dv (DV.val (Value.string s3))]] [] (OSh.enc (OSh.plain (.tup [.s, .i IntKind.i64]) []) y) :=
  auto_okM tm_std (with_ok mixed (by kernel_rfl) (ref09_Term_σok n) n 0 []) (with_pick mixed (by kernel_rfl) (ref09_Term_σok n) n 0 []) mixed Tryd.func14 (by decide) (o := (OSh.plain (.tup [.s, .i IntKind.i64]) [])) h
/-! law09_ShowTerms: function 3 -/
def law09_ShowTerms_lv : Live := []
noncomputable def law09_ShowTerms_σ (n : Nat) : Spec := (inst 12 [] [] (OSh.plain (.b) []) (fun x e => law09_live_v n) (inst 13 [.agg [.s, .b, .i IntKind.i64, .s]] [] (OSh.plain (.tup [.s, .i IntKind.i64]) []) (fun x e => show_Term_v n x.1.1 x.1.2.1 x.1.2.2.1 x.1.2.2.2.1) (inst 14 [.agg [.s, .b, .i IntKind.i64, .s]] [] (OSh.plain (.tup [.s, .i IntKind.i64]) []) (fun x e => ref09_Term_v n x.1.1 x.1.2.1 x.1.2.2.1 x.1.2.2.2.1) Spec.none)))
theorem law09_ShowTerms_σok (n : Nat) : SpecOk Tryd.prog (law09_ShowTerms_σ n) := (inst_ok (fun x e y h => law09_live_c n y h) (inst_ok (fun x e y h => show_Term_c n x.1.1 x.1.2.1 x.1.2.2.1 x.1.2.2.2.1 y h) (inst_ok (fun x e y h => ref09_Term_c n x.1.1 x.1.2.1 x.1.2.2.1 x.1.2.2.2.1 y h) (SpecOk.none _))))
noncomputable def law09_ShowTerms_Φ (n : Nat) : Orc := with_ Tryd.prog (law09_ShowTerms_σ n) [] n 0 []
noncomputable def law09_ShowTerms_v (n : Nat) (s0 : ByteArray) (b1 : Bool) (j2 : Int) (s3 : ByteArray) : Option (Bool × Unit) :=
  DM.denFn tm (law09_ShowTerms_Φ n) law09_ShowTerms_lv n Tryd.f3 false [AV.agg [AV.dv (DV.val (Value.string s0)), AV.dv (DV.val (Value.bool b1)), AV.dv (DV.val (Value.int IntKind.i64 j2)), AV.dv (DV.val (Value.string s3))]] [] (OSh.chk (OSh.plain (.b) []))
theorem law09_ShowTerms_e (n : Nat) (s0 : ByteArray) (b1 : Bool) (j2 : Int) (s3 : ByteArray) : law09_ShowTerms_v n s0 b1 j2 s3 =
  bif decide (IntKind.wrap IntKind.i64 ((↑(ByteArray.size s0) : Int) + (↑(ByteArray.size s3) : Int)) > 5000) then
    obind (law09_live_v n) fun y4 =>
    some (y4.fst, ())
  else obind (show_Term_v n s0 b1 j2 s3) fun y5 =>
  obind (ref09_Term_v n s0 b1 j2 s3) fun y6 =>
  bif y5.fst.fst == y6.fst.fst then
    bif y5.fst.snd.fst == y6.fst.snd.fst then
      obind (law09_live_v n) fun y7 =>
      some (y7.fst, ())
    else some (false, ())
  else some (false, ()) := by kernel_rfl
theorem law09_ShowTerms_c (n : Nat) (s0 : ByteArray) (b1 : Bool) (j2 : Int) (s3 : ByteArray) (y : Bool × Unit) (h : law09_ShowTerms_v n s0 b1 j2 s3 = some y) : Contract Tryd.prog 3 [AV.agg [AV.dv (DV.val (Value.string s0)), AV.dv (DV.val (Value.bool b1)), AV.dv (DV.val (Value.int IntKind.i64 j2)), AV.dv (DV.val (Value.string s3))]] [] (OSh.enc (OSh.plain (.b) []) y) :=
  auto_okM tm_std (with_ok mixed (by kernel_rfl) (law09_ShowTerms_σok n) n 0 []) (with_pick mixed (by kernel_rfl) (law09_ShowTerms_σok n) n 0 []) mixed Tryd.func3 (by decide) (o := (OSh.plain (.b) [])) h
end Go.Den
