import Derived.Test.YtamalelonhdfaaaMemo11
set_option linter.unusedVariables false
set_option linter.unusedSimpArgs false
set_option linter.unusedSectionVars false
namespace Go.Den
open Go.Proofs
set_option maxRecDepth 100000
/-! match_or: function 34 -/
def match_or_lv : Live := []
noncomputable def match_or_σ (n : Nat) : Spec := Spec.none
theorem match_or_σok (n : Nat) : SpecOk Try.prog (match_or_σ n) := (SpecOk.none _)
noncomputable def match_or_Φ (n : Nat) : Orc := with_ Try.prog (match_or_σ n) [] n 0 []
noncomputable def match_or_v (n : Nat) (s0 : ByteArray) (b1 : Bool) (j2 : Int) (s3 : ByteArray) (s4 : ByteArray) (b5 : Bool) (j6 : Int) (s7 : ByteArray) : Option ((ByteArray × Bool × Int × ByteArray × Unit) × Unit) :=
  DM.denFn tm (match_or_Φ n) match_or_lv n Try.f34 false [AV.agg [AV.dv (DV.val (Value.string s0)), AV.dv (DV.val (Value.bool b1)), AV.dv (DV.val (Value.int IntKind.i64 j2)), AV.dv (DV.val (Value.string s3))], AV.agg [AV.dv (DV.val (Value.string s4)), AV.dv (DV.val (Value.bool b5)), AV.dv (DV.val (Value.int IntKind.i64 j6)), AV.dv (DV.val (Value.string s7))]] [] (OSh.chk (OSh.plain (.agg [.s, .b, .i IntKind.i64, .s]) []))
theorem match_or_e (n : Nat) (s0 : ByteArray) (b1 : Bool) (j2 : Int) (s3 : ByteArray) (s4 : ByteArray) (b5 : Bool) (j6 : Int) (s7 : ByteArray) : match_or_v n s0 b1 j2 s3 s4 b5 j6 s7 =
  bif s0 == ByteArray.mk #[] && (b1 == false && (j2 == 0 && (s3 == ByteArray.mk #[] && true))) then
    some ((s4, (b5, (j6, (s7, ())))), ())
  else some ((s0, (b1, (j2, (s3, ())))), ()) := by kernel_rfl
theorem match_or_c (n : Nat) (s0 : ByteArray) (b1 : Bool) (j2 : Int) (s3 : ByteArray) (s4 : ByteArray) (b5 : Bool) (j6 : Int) (s7 : ByteArray) (y : (ByteArray × Bool × Int × ByteArray × Unit) × Unit) (h : match_or_v n s0 b1 j2 s3 s4 b5 j6 s7 = some y) : Contract Try.prog 34 [AV.agg [AV.dv (DV.val (Value.string s0)), AV.dv (DV.val (Value.bool b1)), AV.dv (DV.val (Value.int IntKind.i64 j2)), AV.dv (DV.val (Value.string s3))], AV.agg [AV.dv (DV.val (Value.string s4)), AV.dv (DV.val (Value.bool b5)), AV.dv (DV.val (Value.int IntKind.i64 j6)), AV.dv (DV.val (Value.string s7))]] [] (OSh.enc (OSh.plain (.agg [.s, .b, .i IntKind.i64, .s]) []) y) :=
  auto_okM tm_std (with_ok mixed (by kernel_rfl) (match_or_σok n) n 0 []) (with_pick mixed (by kernel_rfl) (match_or_σok n) n 0 []) mixed Try.func34 (by decide) (o := (OSh.plain (.agg [.s, .b, .i IntKind.i64, .s]) [])) h
/-! match_text: function 35 -/
def match_text_lv : Live := []
noncomputable def match_text_σ (n : Nat) : Spec := Spec.none
theorem match_text_σok (n : Nat) : SpecOk Try.prog (match_text_σ n) := (SpecOk.none _)
noncomputable def match_text_Φ (n : Nat) : Orc := with_ Try.prog (match_text_σ n) [] n 0 []
noncomputable def match_text_v (n : Nat) (s0 : ByteArray) : Option ((Bool × Int × ByteArray × Unit) × Unit) :=
  DM.denFn tm (match_text_Φ n) match_text_lv n Try.f35 false [AV.dv (DV.val (Value.string s0))] [] (OSh.chk (OSh.plain (.agg [.b, .i IntKind.i64, .s]) []))
theorem match_text_e (n : Nat) (s0 : ByteArray) : match_text_v n s0 =
  some ((false, (0, (s0, ()))), ()) := by kernel_rfl
theorem match_text_c (n : Nat) (s0 : ByteArray) (y : (Bool × Int × ByteArray × Unit) × Unit) (h : match_text_v n s0 = some y) : Contract Try.prog 35 [AV.dv (DV.val (Value.string s0))] [] (OSh.enc (OSh.plain (.agg [.b, .i IntKind.i64, .s]) []) y) :=
  auto_okM tm_std (with_ok mixed (by kernel_rfl) (match_text_σok n) n 0 []) (with_pick mixed (by kernel_rfl) (match_text_σok n) n 0 []) mixed Try.func35 (by decide) (o := (OSh.plain (.agg [.b, .i IntKind.i64, .s]) [])) h
/-! match_Value_1: function 29 -/
def match_Value_1_lv : Live := []
noncomputable def match_Value_1_σ (n : Nat) : Spec := Spec.none
theorem match_Value_1_σok (n : Nat) : SpecOk Try.prog (match_Value_1_σ n) := (SpecOk.none _)
noncomputable def match_Value_1_Φ (n : Nat) : Orc := with_ Try.prog (match_Value_1_σ n) [] n 0 []
noncomputable def match_Value_1_v (n : Nat) (s0 : ByteArray) (b1 : Bool) (j2 : Int) (s3 : ByteArray) (s4 : ByteArray) (b5 : Bool) (j6 : Int) (s7 : ByteArray) : Option (Bool × (ByteArray × Bool × Int × ByteArray × Unit) × Unit) :=
  DM.denFn tm (match_Value_1_Φ n) match_Value_1_lv n Try.f29 false [AV.agg [AV.dv (DV.val (Value.string s0)), AV.dv (DV.val (Value.bool b1)), AV.dv (DV.val (Value.int IntKind.i64 j2)), AV.dv (DV.val (Value.string s3))], AV.pl 1000 0] [[AV.dv (DV.val (Value.string s4)), AV.dv (DV.val (Value.bool b5)), AV.dv (DV.val (Value.int IntKind.i64 j6)), AV.dv (DV.val (Value.string s7))]] (OSh.chk (OSh.plain (.b) [[.s, .b, .i IntKind.i64, .s]]))
theorem match_Value_1_e (n : Nat) (s0 : ByteArray) (b1 : Bool) (j2 : Int) (s3 : ByteArray) (s4 : ByteArray) (b5 : Bool) (j6 : Int) (s7 : ByteArray) : match_Value_1_v n s0 b1 j2 s3 s4 b5 j6 s7 =
  some (s0 == s4, ((s4, (b5, (j6, (s7, ())))), ())) := by kernel_rfl
theorem match_Value_1_c (n : Nat) (s0 : ByteArray) (b1 : Bool) (j2 : Int) (s3 : ByteArray) (s4 : ByteArray) (b5 : Bool) (j6 : Int) (s7 : ByteArray) (y : Bool × (ByteArray × Bool × Int × ByteArray × Unit) × Unit) (h : match_Value_1_v n s0 b1 j2 s3 s4 b5 j6 s7 = some y) : Contract Try.prog 29 [AV.agg [AV.dv (DV.val (Value.string s0)), AV.dv (DV.val (Value.bool b1)), AV.dv (DV.val (Value.int IntKind.i64 j2)), AV.dv (DV.val (Value.string s3))], AV.pl 1000 0] [[AV.dv (DV.val (Value.string s4)), AV.dv (DV.val (Value.bool b5)), AV.dv (DV.val (Value.int IntKind.i64 j6)), AV.dv (DV.val (Value.string s7))]] (OSh.enc (OSh.plain (.b) [[.s, .b, .i IntKind.i64, .s]]) y) :=
  auto_okM tm_std (with_ok mixed (by kernel_rfl) (match_Value_1_σok n) n 0 []) (with_pick mixed (by kernel_rfl) (match_Value_1_σok n) n 0 []) mixed Try.func29 (by decide) (o := (OSh.plain (.b) [[.s, .b, .i IntKind.i64, .s]])) h
/-! slices_IndexFunc: function 28 -/
def slices_IndexFunc_match_Value_1_lv : Live := [(2, [0, 1, 7, 8], [1000, 1001, 1002, 1003])]
noncomputable def slices_IndexFunc_match_Value_1_σ (n : Nat) : Spec := (inst 29 [.agg [.s, .b, .i IntKind.i64, .s], .pl 1000 0] [[.s, .b, .i IntKind.i64, .s]] (OSh.plain (.b) [[.s, .b, .i IntKind.i64, .s]]) (fun x e => match_Value_1_v n x.1.1 x.1.2.1 x.1.2.2.1 x.1.2.2.2.1 e.1.1 e.1.2.1 e.1.2.2.1 e.1.2.2.2.1) Spec.none)
theorem slices_IndexFunc_match_Value_1_σok (n : Nat) : SpecOk Try.prog (slices_IndexFunc_match_Value_1_σ n) := (inst_ok (fun x e y h => match_Value_1_c n x.1.1 x.1.2.1 x.1.2.2.1 x.1.2.2.2.1 e.1.1 e.1.2.1 e.1.2.2.1 e.1.2.2.2.1 y h) (SpecOk.none _))
noncomputable def slices_IndexFunc_match_Value_1_Φ (n : Nat) : Orc := with_ Try.prog (slices_IndexFunc_match_Value_1_σ n) [] n 0 []
noncomputable def slices_IndexFunc_match_Value_1_v (n : Nat) (b0 : Bool) (r1 : Rows) (s2 : ByteArray) (b3 : Bool) (j4 : Int) (s5 : ByteArray) : Option (Int × (ByteArray × Bool × Int × ByteArray × Unit) × Unit) :=
  DM.denFn tm (slices_IndexFunc_match_Value_1_Φ n) slices_IndexFunc_match_Value_1_lv n Try.f28 false [AV.sl b0 [Kd.s, Kd.b, Kd.i IntKind.i64, Kd.s] r1 Right.no, AV.fn 29 [AV.pl 1000 0]] [[AV.dv (DV.val (Value.string s2)), AV.dv (DV.val (Value.bool b3)), AV.dv (DV.val (Value.int IntKind.i64 j4)), AV.dv (DV.val (Value.string s5))]] (OSh.chk (OSh.plain (.i IntKind.i64) [[.s, .b, .i IntKind.i64, .s]]))
noncomputable def slices_IndexFunc_match_Value_1_l2 (n : Nat) (b0 : Bool) (r1 : Rows) (s2 : ByteArray) (b3 : Bool) (j4 : Int) (s5 : ByteArray) (i0 : Nat) (j7 : Int) (s8 : ByteArray) (b9 : Bool) (j10 : Int) (s11 : ByteArray) : Option (Int × (ByteArray × Bool × Int × ByteArray × Unit) × Unit) :=
  DM.loopFn tm (slices_IndexFunc_match_Value_1_Φ n) slices_IndexFunc_match_Value_1_lv n Try.f28 false [[AV.dv (DV.val (Value.string s2)), AV.dv (DV.val (Value.bool b3)), AV.dv (DV.val (Value.int IntKind.i64 j4)), AV.dv (DV.val (Value.string s5))]] (OSh.chk (OSh.plain (.i IntKind.i64) [[.s, .b, .i IntKind.i64, .s]])) 2 [] i0 (St.mk [AV.sl b0 [Kd.s, Kd.b, Kd.i IntKind.i64, Kd.s] r1 Right.no, AV.fn 29 [AV.pl 1000 0], AV.junk, AV.junk, AV.junk, AV.junk, AV.junk, AV.dv (DV.val (Value.int IntKind.i64 (↑(List.length r1) : Int))), AV.dv (DV.val (Value.int IntKind.i64 j7)), AV.junk, AV.junk, AV.junk, AV.junk, AV.junk, AV.junk, AV.junk, AV.junk, AV.junk, AV.junk] [(1000, [AV.dv (DV.val (Value.string s8)), AV.dv (DV.val (Value.bool b9)), AV.dv (DV.val (Value.int IntKind.i64 j10)), AV.dv (DV.val (Value.string s11))])])
theorem slices_IndexFunc_match_Value_1_s2 (n : Nat) (b0 : Bool) (r1 : Rows) (s2 : ByteArray) (b3 : Bool) (j4 : Int) (s5 : ByteArray) (i0 : Nat) (j7 : Int) (s8 : ByteArray) (b9 : Bool) (j10 : Int) (s11 : ByteArray) : slices_IndexFunc_match_Value_1_l2 n b0 r1 s2 b3 j4 s5 (i0 + 1) j7 s8 b9 j10 s11 =
  bif decide (j7 < (↑(List.length r1) : Int)) then
    if 0 ≤ j7 then
      if j7 < (↑(List.length r1) : Int) then
        obind (match_Value_1_v n (Row.S (List.getD r1 (Int.toNat j7) []) 0) (Row.B (List.getD r1 (Int.toNat j7) []) 1) (Row.I (List.getD r1 (Int.toNat j7) []) 2) (Row.S (List.getD r1 (Int.toNat j7) []) 3) s8 b9 j10 s11) fun y12 =>
        bif y12.fst then
          some (j7, ((y12.snd.fst.fst, (y12.snd.fst.snd.fst, (y12.snd.fst.snd.snd.fst, (y12.snd.fst.snd.snd.snd.fst, ())))), ()))
        else slices_IndexFunc_match_Value_1_l2 n b0 r1 s2 b3 j4 s5 i0 (IntKind.wrap IntKind.i64 (j7 + 1)) y12.snd.fst.fst y12.snd.fst.snd.fst y12.snd.fst.snd.snd.fst y12.snd.fst.snd.snd.snd.fst
      else none
    else none
  else some (-1, ((s8, (b9, (j10, (s11, ())))), ())) := by kernel_rfl
theorem slices_IndexFunc_match_Value_1_e (n : Nat) (b0 : Bool) (r1 : Rows) (s2 : ByteArray) (b3 : Bool) (j4 : Int) (s5 : ByteArray) : slices_IndexFunc_match_Value_1_v n b0 r1 s2 b3 j4 s5 =
  slices_IndexFunc_match_Value_1_l2 n b0 r1 s2 b3 j4 s5 n 0 s2 b3 j4 s5 := by kernel_rfl
theorem slices_IndexFunc_match_Value_1_c (n : Nat) (b0 : Bool) (r1 : Rows) (s2 : ByteArray) (b3 : Bool) (j4 : Int) (s5 : ByteArray) (y : Int × (ByteArray × Bool × Int × ByteArray × Unit) × Unit) (h : slices_IndexFunc_match_Value_1_v n b0 r1 s2 b3 j4 s5 = some y) : Contract Try.prog 28 [AV.sl b0 [Kd.s, Kd.b, Kd.i IntKind.i64, Kd.s] r1 Right.no, AV.fn 29 [AV.pl 1000 0]] [[AV.dv (DV.val (Value.string s2)), AV.dv (DV.val (Value.bool b3)), AV.dv (DV.val (Value.int IntKind.i64 j4)), AV.dv (DV.val (Value.string s5))]] (OSh.enc (OSh.plain (.i IntKind.i64) [[.s, .b, .i IntKind.i64, .s]]) y) :=
  auto_okM tm_std (with_ok mixed (by kernel_rfl) (slices_IndexFunc_match_Value_1_σok n) n 0 []) (with_pick mixed (by kernel_rfl) (slices_IndexFunc_match_Value_1_σok n) n 0 []) mixed Try.func28 (by decide) (o := (OSh.plain (.i IntKind.i64) [[.s, .b, .i IntKind.i64, .s]])) h
/-! match_Value: function 10 -/
def match_Value_lv : Live := []
noncomputable def match_Value_σ (n : Nat) : Spec := (inst 28 [.sl [Kd.s, Kd.b, Kd.i IntKind.i64, Kd.s], .fn 29 [.pl 1000 0]] [[.s, .b, .i IntKind.i64, .s]] (OSh.plain (.i IntKind.i64) [[.s, .b, .i IntKind.i64, .s]]) (fun x e => slices_IndexFunc_match_Value_1_v n x.1.1 x.1.2 e.1.1 e.1.2.1 e.1.2.2.1 e.1.2.2.2.1) Spec.none)
theorem match_Value_σok (n : Nat) : SpecOk Try.prog (match_Value_σ n) := (inst_ok (fun x e y h => slices_IndexFunc_match_Value_1_c n x.1.1 x.1.2 e.1.1 e.1.2.1 e.1.2.2.1 e.1.2.2.2.1 y h) (SpecOk.none _))
noncomputable def match_Value_Φ (n : Nat) : Orc := with_ Try.prog (match_Value_σ n) [] n 0 []
noncomputable def match_Value_v (n : Nat) (s0 : ByteArray) (b1 : Bool) (j2 : Int) (s3 : ByteArray) (b4 : Bool) (r5 : Rows) : Option (((Bool × Int × ByteArray × Unit) × Bool × Unit) × Unit) :=
  DM.denFn tm (match_Value_Φ n) match_Value_lv n Try.f10 false [AV.agg [AV.dv (DV.val (Value.string s0)), AV.dv (DV.val (Value.bool b1)), AV.dv (DV.val (Value.int IntKind.i64 j2)), AV.dv (DV.val (Value.string s3))], AV.sl b4 [Kd.s, Kd.b, Kd.i IntKind.i64, Kd.s] r5 Right.no] [] (OSh.chk (OSh.plain (.tup [.agg [.b, .i IntKind.i64, .s], .b]) []))
theorem match_Value_e (n : Nat) (s0 : ByteArray) (b1 : Bool) (j2 : Int) (s3 : ByteArray) (b4 : Bool) (r5 : Rows) : match_Value_v n s0 b1 j2 s3 b4 r5 =
  bif s0 == ByteArray.mk #[] && (b1 == false && (j2 == 0 && (s3 == ByteArray.mk #[] && true))) then
    some (((false, (0, (ByteArray.mk #[], ()))), (false, ())), ())
  else bif s0 == ByteArray.mk #[] then
    some (((b1, (j2, (s3, ()))), (true, ())), ())
  else obind (slices_IndexFunc_match_Value_1_v n b4 r5 s0 b1 j2 s3) fun y6 =>
  bif decide (y6.fst < 0) then
    some (((false, (0, (ByteArray.mk #[], ()))), (false, ())), ())
  else if 0 ≤ y6.fst then
    if y6.fst < (↑(List.length r5) : Int) then
      some (((Row.B (List.getD r5 (Int.toNat y6.fst) []) 1, (Row.I (List.getD r5 (Int.toNat y6.fst) []) 2, (Row.S (List.getD r5 (Int.toNat y6.fst) []) 3, ()))), (true, ())), ())
    else none
  else none := by kernel_rfl
theorem match_Value_c (n : Nat) (s0 : ByteArray) (b1 : Bool) (j2 : Int) (s3 : ByteArray) (b4 : Bool) (r5 : Rows) (y : ((Bool × Int × ByteArray × Unit) × Bool × Unit) × Unit) (h : match_Value_v n s0 b1 j2 s3 b4 r5 = some y) : Contract Try.prog 10 [AV.agg [AV.dv (DV.val (Value.string s0)), AV.dv (DV.val (Value.bool b1)), AV.dv (DV.val (Value.int IntKind.i64 j2)), AV.dv (DV.val (Value.string s3))], AV.sl b4 [Kd.s, Kd.b, Kd.i IntKind.i64, Kd.s] r5 Right.no] [] (OSh.enc (OSh.plain (.tup [.agg [.b, .i IntKind.i64, .s], .b]) []) y) :=
  auto_okM tm_std (with_ok mixed (by kernel_rfl) (match_Value_σok n) n 0 []) (with_pick mixed (by kernel_rfl) (match_Value_σok n) n 0 []) mixed Try.func10 (by decide) (o := (OSh.plain (.tup [.agg [.b, .i IntKind.i64, .s], .b]) [])) h
/-! slices_Clone: function 31 -/
def slices_Clone_lv : Live := []
noncomputable def slices_Clone_σ (n : Nat) : Spec := Spec.none
theorem slices_Clone_σok (n : Nat) : SpecOk Try.prog (slices_Clone_σ n) := (SpecOk.none _)
noncomputable def slices_Clone_Φ (n : Nat) : Orc := with_ Try.prog (slices_Clone_σ n) [] n 0 []
noncomputable def slices_Clone_v (n : Nat) (b0 : Bool) (r1 : Rows) : Option ((Bool × Rows) × Unit) :=
  DM.denFn tm (slices_Clone_Φ n) slices_Clone_lv n Try.f31 true [AV.sl b0 [Kd.s, Kd.b, Kd.i IntKind.i64, Kd.s] r1 Right.no] [] (OSh.chk (OSh.plain (.slt [Kd.s, Kd.b, Kd.i IntKind.i64, Kd.s] 0) []))
theorem slices_Clone_e (n : Nat) (b0 : Bool) (r1 : Rows) : slices_Clone_v n b0 r1 =
  bif b0 then
    some ((true, []), ())
  else if (0 + List.length r1) * 48 ≤ 140737488355328 then
    some ((false && List.isEmpty r1, appX [] r1), ())
  else none := by kernel_rfl
theorem slices_Clone_c (n : Nat) (b0 : Bool) (r1 : Rows) (y : (Bool × Rows) × Unit) (h : slices_Clone_v n b0 r1 = some y) : Contract Try.prog 31 [AV.sl b0 [Kd.s, Kd.b, Kd.i IntKind.i64, Kd.s] r1 Right.no] [] (OSh.enc (OSh.plain (.slt [Kd.s, Kd.b, Kd.i IntKind.i64, Kd.s] 0) []) y) :=
  auto_okM tm_std (with_ok mixed (by kernel_rfl) (slices_Clone_σok n) n 0 []) (with_pick mixed (by kernel_rfl) (slices_Clone_σok n) n 0 []) mixed Try.func31 (by decide) (o := (OSh.plain (.slt [Kd.s, Kd.b, Kd.i IntKind.i64, Kd.s] 0) [])) h
/-! match_Unify: function 12 -/
def match_Unify_lv : Live := []
noncomputable def match_Unify_σ (n : Nat) : Spec := (inst 10 [.agg [.s, .b, .i IntKind.i64, .s], .sl [Kd.s, Kd.b, Kd.i IntKind.i64, Kd.s]] [] (OSh.plain (.tup [.agg [.b, .i IntKind.i64, .s], .b]) []) (fun x e => match_Value_v n x.1.1 x.1.2.1 x.1.2.2.1 x.1.2.2.2.1 x.2.1.1 x.2.1.2) (inst 31 [.sl [Kd.s, Kd.b, Kd.i IntKind.i64, Kd.s]] [] (OSh.plain (.slt [Kd.s, Kd.b, Kd.i IntKind.i64, Kd.s] 0) []) (fun x e => slices_Clone_v n x.1.1 x.1.2) Spec.none))
theorem match_Unify_σok (n : Nat) : SpecOk Try.prog (match_Unify_σ n) := (inst_ok (fun x e y h => match_Value_c n x.1.1 x.1.2.1 x.1.2.2.1 x.1.2.2.2.1 x.2.1.1 x.2.1.2 y h) (inst_ok (fun x e y h => slices_Clone_c n x.1.1 x.1.2 y h) (SpecOk.none _)))
noncomputable def match_Unify_Φ (n : Nat) : Orc := with_ Try.prog (match_Unify_σ n) [] n 0 []
noncomputable def match_Unify_v (n : Nat) (s0 : ByteArray) (b1 : Bool) (j2 : Int) (s3 : ByteArray) (b4 : Bool) (j5 : Int) (s6 : ByteArray) (b7 : Bool) (r8 : Rows) : Option (((Bool × Rows) × Bool × Unit) × Unit) :=
  DM.denFn tm (match_Unify_Φ n) match_Unify_lv n Try.f12 true [AV.agg [AV.dv (DV.val (Value.string s0)), AV.dv (DV.val (Value.bool b1)), AV.dv (DV.val (Value.int IntKind.i64 j2)), AV.dv (DV.val (Value.string s3))], AV.agg [AV.dv (DV.val (Value.bool b4)), AV.dv (DV.val (Value.int IntKind.i64 j5)), AV.dv (DV.val (Value.string s6))], AV.sl b7 [Kd.s, Kd.b, Kd.i IntKind.i64, Kd.s] r8 Right.no] [] (OSh.chk (OSh.plain (.tup [.slt [Kd.s, Kd.b, Kd.i IntKind.i64, Kd.s] 0, .b]) []))
theorem match_Unify_e (n : Nat) (s0 : ByteArray) (b1 : Bool) (j2 : Int) (s3 : ByteArray) (b4 : Bool) (j5 : Int) (s6 : ByteArray) (b7 : Bool) (r8 : Rows) : match_Unify_v n s0 b1 j2 s3 b4 j5 s6 b7 r8 =
  obind (match_Value_v n s0 b1 j2 s3 b7 r8) fun y9 =>
  bif y9.fst.snd.fst then
    bif !(y9.fst.fst.fst == b4 && (y9.fst.fst.snd.fst == j5 && (y9.fst.fst.snd.snd.fst == s6 && true))) then
      some (((true, []), (false, ())), ())
    else obind (slices_Clone_v n b7 r8) fun y10 =>
    some (((y10.fst.fst, y10.fst.snd), (true, ())), ())
  else bif s0 == ByteArray.mk #[] then
    some (((true, []), (false, ())), ())
  else obind (slices_Clone_v n b7 r8) fun y11 =>
  if (List.length y11.fst.snd + List.length [[DV.val (Value.string s0), DV.val (Value.bool b4), DV.val (Value.int IntKind.i64 j5), DV.val (Value.string s6)]]) * 48 ≤ 140737488355328 then
    some (((y11.fst.fst && List.isEmpty [[DV.val (Value.string s0), DV.val (Value.bool b4), DV.val (Value.int IntKind.i64 j5), DV.val (Value.string s6)]], appX y11.fst.snd [[DV.val (Value.string s0), DV.val (Value.bool b4), DV.val (Value.int IntKind.i64 j5), DV.val (Value.string s6)]]), (true, ())), ())
  else none := by kernel_rfl
theorem match_Unify_c (n : Nat) (s0 : ByteArray) (b1 : Bool) (j2 : Int) (s3 : ByteArray) (b4 : Bool) (j5 : Int) (s6 : ByteArray) (b7 : Bool) (r8 : Rows) (y : ((Bool × Rows) × Bool × Unit) × Unit) (h : match_Unify_v n s0 b1 j2 s3 b4 j5 s6 b7 r8 = some y) : Contract Try.prog 12 [AV.agg [AV.dv (DV.val (Value.string s0)), AV.dv (DV.val (Value.bool b1)), AV.dv (DV.val (Value.int IntKind.i64 j2)), AV.dv (DV.val (Value.string s3))], AV.agg [AV.dv (DV.val (Value.bool b4)), AV.dv (DV.val (Value.int IntKind.i64 j5)), AV.dv (DV.val (Value.string s6))], AV.sl b7 [Kd.s, Kd.b, Kd.i IntKind.i64, Kd.s] r8 Right.no] [] (OSh.enc (OSh.plain (.tup [.slt [Kd.s, Kd.b, Kd.i IntKind.i64, Kd.s] 0, .b]) []) y) :=
  auto_okM tm_std (with_ok mixed (by kernel_rfl) (match_Unify_σok n) n 0 []) (with_pick mixed (by kernel_rfl) (match_Unify_σok n) n 0 []) mixed Try.func12 (by decide) (o := (OSh.plain (.tup [.slt [Kd.s, Kd.b, Kd.i IntKind.i64, Kd.s] 0, .b]) [])) h
/-! match_Literal: function 16 -/
def match_Literal_ms_lv : Live := [(10, [3, 6, 10, 61, 62, 63], [6, 1000, 1001, 1002, 1003])]
noncomputable def match_Literal_ms_σ (n : Nat) : Spec := (inst 34 [.agg [.s, .b, .i IntKind.i64, .s], .agg [.s, .b, .i IntKind.i64, .s]] [] (OSh.plain (.agg [.s, .b, .i IntKind.i64, .s]) []) (fun x e => match_or_v n x.1.1 x.1.2.1 x.1.2.2.1 x.1.2.2.2.1 x.2.1.1 x.2.1.2.1 x.2.1.2.2.1 x.2.1.2.2.2.1) (inst 35 [.s] [] (OSh.plain (.agg [.b, .i IntKind.i64, .s]) []) (fun x e => match_text_v n x.1) (inst 12 [.agg [.s, .b, .i IntKind.i64, .s], .agg [.b, .i IntKind.i64, .s], .sl [Kd.s, Kd.b, Kd.i IntKind.i64, Kd.s]] [] (OSh.plain (.tup [.slt [Kd.s, Kd.b, Kd.i IntKind.i64, Kd.s] 0, .b]) []) (fun x e => match_Unify_v n x.1.1 x.1.2.1 x.1.2.2.1 x.1.2.2.2.1 x.2.1.1 x.2.1.2.1 x.2.1.2.2.1 x.2.2.1.1 x.2.2.1.2) Spec.none)))
theorem match_Literal_ms_σok (n : Nat) : SpecOk Try.prog (match_Literal_ms_σ n) := (inst_ok (fun x e y h => match_or_c n x.1.1 x.1.2.1 x.1.2.2.1 x.1.2.2.2.1 x.2.1.1 x.2.1.2.1 x.2.1.2.2.1 x.2.1.2.2.2.1 y h) (inst_ok (fun x e y h => match_text_c n x.1 y h) (inst_ok (fun x e y h => match_Unify_c n x.1.1 x.1.2.1 x.1.2.2.1 x.1.2.2.2.1 x.2.1.1 x.2.1.2.1 x.2.1.2.2.1 x.2.2.1.1 x.2.2.1.2 y h) (SpecOk.none _))))
noncomputable def match_Literal_ms_Φ (n : Nat) : Orc := with_ Try.prog (match_Literal_ms_σ n) [] n 0 []
noncomputable def match_Literal_ms_v (n : Nat) (s0 : ByteArray) (b1 : Bool) (j2 : Int) (s3 : ByteArray) (s4 : ByteArray) (b5 : Bool) (j6 : Int) (s7 : ByteArray) (s8 : ByteArray) (b9 : Bool) (r10 : Rows) (s11 : ByteArray) (b12 : Bool) (j13 : Int) (s14 : ByteArray) (s15 : ByteArray) (s16 : ByteArray) (s17 : ByteArray) (m18 : Nat) (m19 : Nat) (m20 : Nat) (b21 : Bool) (r22 : Rows) (r23 : Rows) : Option (((Bool × Rows) × Bool × Unit) × (Rows × Unit) × Unit) :=
  DM.denFn tm (match_Literal_ms_Φ n) match_Literal_ms_lv n Try.f16 true [AV.agg [AV.dv (DV.val (Value.string s0)), AV.dv (DV.val (Value.bool b1)), AV.dv (DV.val (Value.int IntKind.i64 j2)), AV.dv (DV.val (Value.string s3))], AV.agg [AV.dv (DV.val (Value.string s4)), AV.dv (DV.val (Value.bool b5)), AV.dv (DV.val (Value.int IntKind.i64 j6)), AV.dv (DV.val (Value.string s7)), AV.dv (DV.val (Value.string s8)), AV.sl b9 [Kd.s, Kd.b, Kd.i IntKind.i64, Kd.s] r10 Right.no, AV.dv (DV.val (Value.string s11)), AV.dv (DV.val (Value.bool b12)), AV.dv (DV.val (Value.int IntKind.i64 j13)), AV.dv (DV.val (Value.string s14))], AV.agg [AV.dv (DV.val (Value.string s15)), AV.dv (DV.val (Value.string s16)), AV.dv (DV.val (Value.string s17)), AV.ms 1000 [Kd.b, Kd.i IntKind.i64, Kd.s] m18 m19 m20], AV.sl b21 [Kd.s, Kd.b, Kd.i IntKind.i64, Kd.s] r22 Right.no] [[AV.arr [Kd.b, Kd.i IntKind.i64, Kd.s] r23]] (OSh.chk (OSh.plain (.tup [.slt [Kd.s, Kd.b, Kd.i IntKind.i64, Kd.s] 0, .b]) [[.arr [Kd.b, Kd.i IntKind.i64, Kd.s]]]))
noncomputable def match_Literal_ms_l10 (n : Nat) (s0 : ByteArray) (b1 : Bool) (j2 : Int) (s3 : ByteArray) (s4 : ByteArray) (b5 : Bool) (j6 : Int) (s7 : ByteArray) (s8 : ByteArray) (b9 : Bool) (r10 : Rows) (s11 : ByteArray) (b12 : Bool) (j13 : Int) (s14 : ByteArray) (s15 : ByteArray) (s16 : ByteArray) (s17 : ByteArray) (m18 : Nat) (m19 : Nat) (m20 : Nat) (b21 : Bool) (r22 : Rows) (r23 : Rows) (i0 : Nat) (b29 : Bool) (r30 : List (List DV)) (b31 : Bool) (j33 : Int) : Option (((Bool × Rows) × Bool × Unit) × (Rows × Unit) × Unit) :=
  DM.loopFn tm (match_Literal_ms_Φ n) match_Literal_ms_lv n Try.f16 true [[AV.arr [Kd.b, Kd.i IntKind.i64, Kd.s] r23]] (OSh.chk (OSh.plain (.tup [.slt [Kd.s, Kd.b, Kd.i IntKind.i64, Kd.s] 0, .b]) [[.arr [Kd.b, Kd.i IntKind.i64, Kd.s]]])) 10 [] i0 (St.mk [AV.junk, AV.junk, AV.junk, AV.sl b29 [Kd.s, Kd.b, Kd.i IntKind.i64, Kd.s] r30 (Right.tok 3), AV.junk, AV.junk, AV.pl 6 0, AV.junk, AV.junk, AV.junk, AV.dv (DV.val (Value.bool b31)), AV.junk, AV.junk, AV.junk, AV.junk, AV.junk, AV.junk, AV.junk, AV.junk, AV.junk, AV.junk, AV.junk, AV.junk, AV.junk, AV.junk, AV.junk, AV.junk, AV.junk, AV.junk, AV.junk, AV.junk, AV.junk, AV.junk, AV.junk, AV.junk, AV.junk, AV.junk, AV.junk, AV.junk, AV.junk, AV.junk, AV.junk, AV.junk, AV.junk, AV.junk, AV.junk, AV.junk, AV.junk, AV.junk, AV.junk, AV.junk, AV.junk, AV.junk, AV.junk, AV.junk, AV.junk, AV.junk, AV.junk, AV.junk, AV.junk, AV.junk, AV.sl b9 [Kd.s, Kd.b, Kd.i IntKind.i64, Kd.s] r10 Right.no, AV.dv (DV.val (Value.int IntKind.i64 (↑(List.length r10) : Int))), AV.dv (DV.val (Value.int IntKind.i64 j33)), AV.junk, AV.junk, AV.junk, AV.junk, AV.junk, AV.junk, AV.junk, AV.junk, AV.junk, AV.junk, AV.junk, AV.junk, AV.junk, AV.junk, AV.junk, AV.junk, AV.junk, AV.junk, AV.junk, AV.junk, AV.junk] [(1000, [AV.arr [Kd.b, Kd.i IntKind.i64, Kd.s] r23]), (6, [AV.dv (DV.val (Value.string s15)), AV.dv (DV.val (Value.string s16)), AV.dv (DV.val (Value.string s17)), AV.ms 1000 [Kd.b, Kd.i IntKind.i64, Kd.s] m18 m19 m20])])
theorem match_Literal_ms_s10 (n : Nat) (s0 : ByteArray) (b1 : Bool) (j2 : Int) (s3 : ByteArray) (s4 : ByteArray) (b5 : Bool) (j6 : Int) (s7 : ByteArray) (s8 : ByteArray) (b9 : Bool) (r10 : Rows) (s11 : ByteArray) (b12 : Bool) (j13 : Int) (s14 : ByteArray) (s15 : ByteArray) (s16 : ByteArray) (s17 : ByteArray) (m18 : Nat) (m19 : Nat) (m20 : Nat) (b21 : Bool) (r22 : Rows) (r23 : Rows) (i0 : Nat) (b29 : Bool) (r30 : List (List DV)) (b31 : Bool) (j33 : Int) : match_Literal_ms_l10 n s0 b1 j2 s3 s4 b5 j6 s7 s8 b9 r10 s11 b12 j13 s14 s15 s16 s17 m18 m19 m20 b21 r22 r23 (i0 + 1) b29 r30 b31 j33 =
  bif decide (j33 < (↑(List.length r10) : Int)) then
    if 0 ≤ j33 then
      if j33 < (↑(List.length r10) : Int) then
        bif !b31 then
          bif !b31 then
            some (((true, []), (false, ())), ((r23, ()), ()))
          else some (((b29, r30), (true, ())), ((r23, ()), ()))
        else if 0 ≤ j33 then
          if j33 < (↑m19 : Int) then
            if m18 + Int.toNat j33 < List.length r23 then
              obind (match_Unify_v n (Row.S (List.getD r10 (Int.toNat j33) []) 0) (Row.B (List.getD r10 (Int.toNat j33) []) 1) (Row.I (List.getD r10 (Int.toNat j33) []) 2) (Row.S (List.getD r10 (Int.toNat j33) []) 3) (Row.B (List.getD r23 (m18 + Int.toNat j33) []) 0) (Row.I (List.getD r23 (m18 + Int.toNat j33) []) 1) (Row.S (List.getD r23 (m18 + Int.toNat j33) []) 2) b29 r30) fun y34 =>
              match_Literal_ms_l10 n s0 b1 j2 s3 s4 b5 j6 s7 s8 b9 r10 s11 b12 j13 s14 s15 s16 s17 m18 m19 m20 b21 r22 r23 i0 y34.fst.fst.fst y34.fst.fst.snd y34.fst.snd.fst (IntKind.wrap IntKind.i64 (j33 + 1))
            else none
          else none
        else none
      else none
    else none
  else bif !b31 then
    some (((true, []), (false, ())), ((r23, ()), ()))
  else some (((b29, r30), (true, ())), ((r23, ()), ())) := by kernel_rfl
theorem match_Literal_ms_e (n : Nat) (s0 : ByteArray) (b1 : Bool) (j2 : Int) (s3 : ByteArray) (s4 : ByteArray) (b5 : Bool) (j6 : Int) (s7 : ByteArray) (s8 : ByteArray) (b9 : Bool) (r10 : Rows) (s11 : ByteArray) (b12 : Bool) (j13 : Int) (s14 : ByteArray) (s15 : ByteArray) (s16 : ByteArray) (s17 : ByteArray) (m18 : Nat) (m19 : Nat) (m20 : Nat) (b21 : Bool) (r22 : Rows) (r23 : Rows) : match_Literal_ms_v n s0 b1 j2 s3 s4 b5 j6 s7 s8 b9 r10 s11 b12 j13 s14 s15 s16 s17 m18 m19 m20 b21 r22 r23 =
  bif !s8 == s17 then
    some (((true, []), (false, ())), ((r23, ()), ()))
  else bif (↑(List.length r10) : Int) != (↑m19 : Int) then
    some (((true, []), (false, ())), ((r23, ()), ()))
  else obind (match_or_v n s11 b12 j13 s14 s0 b1 j2 s3) fun y24 =>
  obind (match_text_v n s15) fun y25 =>
  obind (match_Unify_v n y24.fst.fst y24.fst.snd.fst y24.fst.snd.snd.fst y24.fst.snd.snd.snd.fst y25.fst.fst y25.fst.snd.fst y25.fst.snd.snd.fst b21 r22) fun y26 =>
  bif !y26.fst.snd.fst then
    some (((true, []), (false, ())), ((r23, ()), ()))
  else bif s4 == ByteArray.mk #[] && (b5 == false && (j6 == 0 && (s7 == ByteArray.mk #[] && true))) then
    match_Literal_ms_l10 n s0 b1 j2 s3 s4 b5 j6 s7 s8 b9 r10 s11 b12 j13 s14 s15 s16 s17 m18 m19 m20 b21 r22 r23 n y26.fst.fst.fst y26.fst.fst.snd (s16 == s15) 0
  else obind (match_text_v n s16) fun y27 =>
  obind (match_Unify_v n s4 b5 j6 s7 y27.fst.fst y27.fst.snd.fst y27.fst.snd.snd.fst y26.fst.fst.fst y26.fst.fst.snd) fun y28 =>
  match_Literal_ms_l10 n s0 b1 j2 s3 s4 b5 j6 s7 s8 b9 r10 s11 b12 j13 s14 s15 s16 s17 m18 m19 m20 b21 r22 r23 n y28.fst.fst.fst y28.fst.fst.snd y28.fst.snd.fst 0 := by kernel_rfl
theorem match_Literal_ms_c (n : Nat) (s0 : ByteArray) (b1 : Bool) (j2 : Int) (s3 : ByteArray) (s4 : ByteArray) (b5 : Bool) (j6 : Int) (s7 : ByteArray) (s8 : ByteArray) (b9 : Bool) (r10 : Rows) (s11 : ByteArray) (b12 : Bool) (j13 : Int) (s14 : ByteArray) (s15 : ByteArray) (s16 : ByteArray) (s17 : ByteArray) (m18 : Nat) (m19 : Nat) (m20 : Nat) (b21 : Bool) (r22 : Rows) (r23 : Rows) (y : ((Bool × Rows) × Bool × Unit) × (Rows × Unit) × Unit) (h : match_Literal_ms_v n s0 b1 j2 s3 s4 b5 j6 s7 s8 b9 r10 s11 b12 j13 s14 s15 s16 s17 m18 m19 m20 b21 r22 r23 = some y) : Contract Try.prog 16 [AV.agg [AV.dv (DV.val (Value.string s0)), AV.dv (DV.val (Value.bool b1)), AV.dv (DV.val (Value.int IntKind.i64 j2)), AV.dv (DV.val (Value.string s3))], AV.agg [AV.dv (DV.val (Value.string s4)), AV.dv (DV.val (Value.bool b5)), AV.dv (DV.val (Value.int IntKind.i64 j6)), AV.dv (DV.val (Value.string s7)), AV.dv (DV.val (Value.string s8)), AV.sl b9 [Kd.s, Kd.b, Kd.i IntKind.i64, Kd.s] r10 Right.no, AV.dv (DV.val (Value.string s11)), AV.dv (DV.val (Value.bool b12)), AV.dv (DV.val (Value.int IntKind.i64 j13)), AV.dv (DV.val (Value.string s14))], AV.agg [AV.dv (DV.val (Value.string s15)), AV.dv (DV.val (Value.string s16)), AV.dv (DV.val (Value.string s17)), AV.ms 1000 [Kd.b, Kd.i IntKind.i64, Kd.s] m18 m19 m20], AV.sl b21 [Kd.s, Kd.b, Kd.i IntKind.i64, Kd.s] r22 Right.no] [[AV.arr [Kd.b, Kd.i IntKind.i64, Kd.s] r23]] (OSh.enc (OSh.plain (.tup [.slt [Kd.s, Kd.b, Kd.i IntKind.i64, Kd.s] 0, .b]) [[.arr [Kd.b, Kd.i IntKind.i64, Kd.s]]]) y) :=
  auto_okM tm_std (with_ok mixed (by kernel_rfl) (match_Literal_ms_σok n) n 0 []) (with_pick mixed (by kernel_rfl) (match_Literal_ms_σok n) n 0 []) mixed Try.func16 (by decide) (o := (OSh.plain (.tup [.slt [Kd.s, Kd.b, Kd.i IntKind.i64, Kd.s] 0, .b]) [[.arr [Kd.b, Kd.i IntKind.i64, Kd.s]]])) h
/-! ref11_Like: function 14 -/
def ref11_Like_lv : Live := [(4, [0, 1, 5], [1000, 1001, 1002, 1003])]
noncomputable def ref11_Like_σ (n : Nat) : Spec := Spec.none
theorem ref11_Like_σok (n : Nat) : SpecOk Try.prog (ref11_Like_σ n) := (SpecOk.none _)
noncomputable def ref11_Like_Φ (n : Nat) : Orc := with_ Try.prog (ref11_Like_σ n) [] n 0 []
noncomputable def ref11_Like_v (n : Nat) (b0 : Bool) (r1 : Rows) (b2 : Bool) (r3 : Rows) : Option (Bool × Unit) :=
  DM.denFn tm (ref11_Like_Φ n) ref11_Like_lv n Try.f14 false [AV.sl b0 [Kd.s, Kd.b, Kd.i IntKind.i64, Kd.s] r1 Right.no, AV.sl b2 [Kd.s, Kd.b, Kd.i IntKind.i64, Kd.s] r3 Right.no] [] (OSh.chk (OSh.plain (.b) []))
noncomputable def ref11_Like_l4 (n : Nat) (b0 : Bool) (r1 : Rows) (b2 : Bool) (r3 : Rows) (i0 : Nat) (j4 : Int) : Option (Bool × Unit) :=
  DM.loopFn tm (ref11_Like_Φ n) ref11_Like_lv n Try.f14 false [] (OSh.chk (OSh.plain (.b) [])) 4 [] i0 (St.mk [AV.sl b0 [Kd.s, Kd.b, Kd.i IntKind.i64, Kd.s] r1 Right.no, AV.sl b2 [Kd.s, Kd.b, Kd.i IntKind.i64, Kd.s] r3 Right.no, AV.junk, AV.junk, AV.junk, AV.dv (DV.val (Value.int IntKind.i64 j4)), AV.junk, AV.junk, AV.junk, AV.junk, AV.junk, AV.junk, AV.junk, AV.junk, AV.junk, AV.junk, AV.junk, AV.junk, AV.junk, AV.junk, AV.junk, AV.junk, AV.junk, AV.junk, AV.junk, AV.junk] [])
theorem ref11_Like_s4 (n : Nat) (b0 : Bool) (r1 : Rows) (b2 : Bool) (r3 : Rows) (i0 : Nat) (j4 : Int) : ref11_Like_l4 n b0 r1 b2 r3 (i0 + 1) j4 =
  bif decide (j4 < (↑(List.length r1) : Int)) then
    if 0 ≤ j4 then
      if j4 < (↑(List.length r1) : Int) then
        if 0 ≤ j4 then
          if j4 < (↑(List.length r3) : Int) then
            bif !(Row.S (List.getD r1 (Int.toNat j4) []) 0 == Row.S (List.getD r3 (Int.toNat j4) []) 0 && (Row.B (List.getD r1 (Int.toNat j4) []) 1 == Row.B (List.getD r3 (Int.toNat j4) []) 1 && (Row.I (List.getD r1 (Int.toNat j4) []) 2 == Row.I (List.getD r3 (Int.toNat j4) []) 2 && (Row.S (List.getD r1 (Int.toNat j4) []) 3 == Row.S (List.getD r3 (Int.toNat j4) []) 3 && true)))) then
              some (false, ())
            else ref11_Like_l4 n b0 r1 b2 r3 i0 (IntKind.wrap IntKind.i64 (j4 + 1))
          else none
        else none
      else none
    else none
  else some (true, ()) := by kernel_rfl
theorem ref11_Like_e (n : Nat) (b0 : Bool) (r1 : Rows) (b2 : Bool) (r3 : Rows) : ref11_Like_v n b0 r1 b2 r3 =
  bif (↑(List.length r1) : Int) != (↑(List.length r3) : Int) then
    some (false, ())
  else ref11_Like_l4 n b0 r1 b2 r3 n 0 := by kernel_rfl
theorem ref11_Like_c (n : Nat) (b0 : Bool) (r1 : Rows) (b2 : Bool) (r3 : Rows) (y : Bool × Unit) (h : ref11_Like_v n b0 r1 b2 r3 = some y) : Contract Try.prog 14 [AV.sl b0 [Kd.s, Kd.b, Kd.i IntKind.i64, Kd.s] r1 Right.no, AV.sl b2 [Kd.s, Kd.b, Kd.i IntKind.i64, Kd.s] r3 Right.no] [] (OSh.enc (OSh.plain (.b) []) y) :=
  auto_okM tm_std (with_ok mixed (by kernel_rfl) (ref11_Like_σok n) n 0 []) (with_pick mixed (by kernel_rfl) (ref11_Like_σok n) n 0 []) mixed Try.func14 (by decide) (o := (OSh.plain (.b) [])) h
/-! law11_live: function 9 -/
def law11_live_lv : Live := []
noncomputable def law11_live_σ (n : Nat) : Spec := (inst 16 [.agg [.s, .b, .i IntKind.i64, .s], .agg [.s, .b, .i IntKind.i64, .s, .s, .sl [Kd.s, Kd.b, Kd.i IntKind.i64, Kd.s], .s, .b, .i IntKind.i64, .s], .agg [.s, .s, .s, .ms 1000 [Kd.b, Kd.i IntKind.i64, Kd.s]], .sl [Kd.s, Kd.b, Kd.i IntKind.i64, Kd.s]] [[.arr [Kd.b, Kd.i IntKind.i64, Kd.s]]] (OSh.plain (.tup [.slt [Kd.s, Kd.b, Kd.i IntKind.i64, Kd.s] 0, .b]) [[.arr [Kd.b, Kd.i IntKind.i64, Kd.s]]]) (fun x e => match_Literal_ms_v n x.1.1 x.1.2.1 x.1.2.2.1 x.1.2.2.2.1 x.2.1.1 x.2.1.2.1 x.2.1.2.2.1 x.2.1.2.2.2.1 x.2.1.2.2.2.2.1 x.2.1.2.2.2.2.2.1.1 x.2.1.2.2.2.2.2.1.2 x.2.1.2.2.2.2.2.2.1 x.2.1.2.2.2.2.2.2.2.1 x.2.1.2.2.2.2.2.2.2.2.1 x.2.1.2.2.2.2.2.2.2.2.2.1 x.2.2.1.1 x.2.2.1.2.1 x.2.2.1.2.2.1 x.2.2.1.2.2.2.1.1 x.2.2.1.2.2.2.1.2.1 x.2.2.1.2.2.2.1.2.2 x.2.2.2.1.1 x.2.2.2.1.2 e.1.1) (inst 14 [.sl [Kd.s, Kd.b, Kd.i IntKind.i64, Kd.s], .sl [Kd.s, Kd.b, Kd.i IntKind.i64, Kd.s]] [] (OSh.plain (.b) []) (fun x e => ref11_Like_v n x.1.1 x.1.2 x.2.1.1 x.2.1.2) Spec.none))
theorem law11_live_σok (n : Nat) : SpecOk Try.prog (law11_live_σ n) := (inst_ok (fun x e y h => match_Literal_ms_c n x.1.1 x.1.2.1 x.1.2.2.1 x.1.2.2.2.1 x.2.1.1 x.2.1.2.1 x.2.1.2.2.1 x.2.1.2.2.2.1 x.2.1.2.2.2.2.1 x.2.1.2.2.2.2.2.1.1 x.2.1.2.2.2.2.2.1.2 x.2.1.2.2.2.2.2.2.1 x.2.1.2.2.2.2.2.2.2.1 x.2.1.2.2.2.2.2.2.2.2.1 x.2.1.2.2.2.2.2.2.2.2.2.1 x.2.2.1.1 x.2.2.1.2.1 x.2.2.1.2.2.1 x.2.2.1.2.2.2.1.1 x.2.2.1.2.2.2.1.2.1 x.2.2.1.2.2.2.1.2.2 x.2.2.2.1.1 x.2.2.2.1.2 e.1.1 y h) (inst_ok (fun x e y h => ref11_Like_c n x.1.1 x.1.2 x.2.1.1 x.2.1.2 y h) (SpecOk.none _)))
noncomputable def law11_live_Φ (n : Nat) : Orc := with_ Try.prog (law11_live_σ n) [] n 0 [12]
noncomputable def law11_live_v (n : Nat) : Option (Bool × Unit) :=
  DM.denFn tm (law11_live_Φ n) law11_live_lv n Try.f9 false [] [] (OSh.chk (OSh.plain (.b) []))
theorem law11_live_e (n : Nat) : law11_live_v n =
  obind (match_Literal_ms_v n (ByteArray.mk #[65]) false 0 (ByteArray.mk #[]) (ByteArray.mk #[88]) false 0 (ByteArray.mk #[]) (ByteArray.mk #[112]) false ([[DV.val (Value.string (ByteArray.mk #[88])), DV.val (Value.bool false), DV.val (Value.int IntKind.i64 0), DV.val (Value.string (ByteArray.mk #[]))]]) (ByteArray.mk #[]) false 0 (ByteArray.mk #[]) (ByteArray.mk #[97]) (ByteArray.mk #[98]) (ByteArray.mk #[112]) 0 1 1 true [] ([[DV.val (Value.bool false), DV.val (Value.int IntKind.i64 0), DV.val (Value.string (ByteArray.mk #[98]))]])) fun y0 =>
  if 0 < List.length y0.snd.fst.fst then
    obind (match_Literal_ms_v n (ByteArray.mk #[65]) false 0 (ByteArray.mk #[]) (ByteArray.mk #[88]) false 0 (ByteArray.mk #[]) (ByteArray.mk #[112]) false ([[DV.val (Value.string (ByteArray.mk #[88])), DV.val (Value.bool false), DV.val (Value.int IntKind.i64 0), DV.val (Value.string (ByteArray.mk #[]))]]) (ByteArray.mk #[]) false 0 (ByteArray.mk #[]) (ByteArray.mk #[97]) (ByteArray.mk #[98]) (ByteArray.mk #[112]) 0 1 1 true [] (List.set y0.snd.fst.fst 0 (spliceD (List.getD y0.snd.fst.fst 0 []) 2 [DV.val (Value.string (ByteArray.mk #[99]))]))) fun y1 =>
    bif y0.fst.snd.fst then
      bif !y1.fst.snd.fst then
        obind (ref11_Like_v n y0.fst.fst.fst y0.fst.fst.snd false ([[DV.val (Value.string (ByteArray.mk #[65])), DV.val (Value.bool false), DV.val (Value.int IntKind.i64 0), DV.val (Value.string (ByteArray.mk #[97]))], [DV.val (Value.string (ByteArray.mk #[88])), DV.val (Value.bool false), DV.val (Value.int IntKind.i64 0), DV.val (Value.string (ByteArray.mk #[98]))]])) fun y2 =>
        some (y2.fst, ())
      else some (false, ())
    else some (false, ())
  else none := by kernel_rfl
theorem law11_live_c (n : Nat) (y : Bool × Unit) (h : law11_live_v n = some y) : Contract Try.prog 9 [] [] (OSh.enc (OSh.plain (.b) []) y) :=
  auto_okM tm_std (with_ok mixed (by kernel_rfl) (law11_live_σok n) n 0 [12]) (with_pick mixed (by kernel_rfl) (law11_live_σok n) n 0 [12]) mixed Try.func9 (by decide) (o := (OSh.plain (.b) [])) h
/-! ref11_none: function 30 -/
def ref11_none_lv : Live := []
noncomputable def ref11_none_σ (n : Nat) : Spec := Spec.none
theorem ref11_none_σok (n : Nat) : SpecOk Try.prog (ref11_none_σ n) := (SpecOk.none _)
noncomputable def ref11_none_Φ (n : Nat) : Orc := with_ Try.prog (ref11_none_σ n) [] n 0 []
noncomputable def ref11_none_v (n : Nat) (s0 : ByteArray) (b1 : Bool) (j2 : Int) (s3 : ByteArray) : Option (Bool × Unit) :=
  DM.denFn tm (ref11_none_Φ n) ref11_none_lv n Try.f30 false [AV.agg [AV.dv (DV.val (Value.string s0)), AV.dv (DV.val (Value.bool b1)), AV.dv (DV.val (Value.int IntKind.i64 j2)), AV.dv (DV.val (Value.string s3))]] [] (OSh.chk (OSh.plain (.b) []))
theorem ref11_none_e (n : Nat) (s0 : ByteArray) (b1 : Bool) (j2 : Int) (s3 : ByteArray) : ref11_none_v n s0 b1 j2 s3 =
  some (s0 == ByteArray.mk #[] && (b1 == false && (j2 == 0 && (s3 == ByteArray.mk #[] && true))), ()) := by kernel_rfl
theorem ref11_none_c (n : Nat) (s0 : ByteArray) (b1 : Bool) (j2 : Int) (s3 : ByteArray) (y : Bool × Unit) (h : ref11_none_v n s0 b1 j2 s3 = some y) : Contract Try.prog 30 [AV.agg [AV.dv (DV.val (Value.string s0)), AV.dv (DV.val (Value.bool b1)), AV.dv (DV.val (Value.int IntKind.i64 j2)), AV.dv (DV.val (Value.string s3))]] [] (OSh.enc (OSh.plain (.b) []) y) :=
  auto_okM tm_std (with_ok mixed (by kernel_rfl) (ref11_none_σok n) n 0 []) (with_pick mixed (by kernel_rfl) (ref11_none_σok n) n 0 []) mixed Try.func30 (by decide) (o := (OSh.plain (.b) [])) h
/-! ref11_Value: function 11 -/
def ref11_Value_lv : Live := [(6, [1, 2, 4, 6], [2, 4, 1000, 1001, 1002, 1003])]
noncomputable def ref11_Value_σ (n : Nat) : Spec := (inst 30 [.agg [.s, .b, .i IntKind.i64, .s]] [] (OSh.plain (.b) []) (fun x e => ref11_none_v n x.1.1 x.1.2.1 x.1.2.2.1 x.1.2.2.2.1) Spec.none)
theorem ref11_Value_σok (n : Nat) : SpecOk Try.prog (ref11_Value_σ n) := (inst_ok (fun x e y h => ref11_none_c n x.1.1 x.1.2.1 x.1.2.2.1 x.1.2.2.2.1 y h) (SpecOk.none _))
noncomputable def ref11_Value_Φ (n : Nat) : Orc := with_ Try.prog (ref11_Value_σ n) [] n 0 []
noncomputable def ref11_Value_v (n : Nat) (s0 : ByteArray) (b1 : Bool) (j2 : Int) (s3 : ByteArray) (b4 : Bool) (r5 : Rows) : Option (((Bool × Int × ByteArray × Unit) × Bool × Unit) × Unit) :=
  DM.denFn tm (ref11_Value_Φ n) ref11_Value_lv n Try.f11 false [AV.agg [AV.dv (DV.val (Value.string s0)), AV.dv (DV.val (Value.bool b1)), AV.dv (DV.val (Value.int IntKind.i64 j2)), AV.dv (DV.val (Value.string s3))], AV.sl b4 [Kd.s, Kd.b, Kd.i IntKind.i64, Kd.s] r5 Right.no] [] (OSh.chk (OSh.plain (.tup [.agg [.b, .i IntKind.i64, .s], .b]) []))
noncomputable def ref11_Value_l6 (n : Nat) (s0 : ByteArray) (b1 : Bool) (j2 : Int) (s3 : ByteArray) (b4 : Bool) (r5 : Rows) (i0 : Nat) (j7 : Int) : Option (((Bool × Int × ByteArray × Unit) × Bool × Unit) × Unit) :=
  DM.loopFn tm (ref11_Value_Φ n) ref11_Value_lv n Try.f11 false [] (OSh.chk (OSh.plain (.tup [.agg [.b, .i IntKind.i64, .s], .b]) [])) 6 [] i0 (St.mk [AV.junk, AV.sl b4 [Kd.s, Kd.b, Kd.i IntKind.i64, Kd.s] r5 Right.no, AV.pl 2 0, AV.junk, AV.pl 4 0, AV.junk, AV.dv (DV.val (Value.int IntKind.i64 j7)), AV.junk, AV.junk, AV.junk, AV.junk, AV.junk, AV.junk, AV.junk, AV.junk, AV.junk, AV.junk, AV.junk, AV.junk, AV.junk, AV.junk, AV.junk, AV.junk, AV.junk, AV.junk, AV.junk, AV.junk, AV.junk, AV.junk, AV.junk, AV.junk, AV.junk, AV.junk, AV.junk, AV.junk] [(2, [AV.dv (DV.val (Value.string s0)), AV.dv (DV.val (Value.bool b1)), AV.dv (DV.val (Value.int IntKind.i64 j2)), AV.dv (DV.val (Value.string s3))]), (4, [AV.dv (DV.val (Value.bool false)), AV.dv (DV.val (Value.int IntKind.i64 0)), AV.dv (DV.val (Value.string (ByteArray.mk #[])))])])
theorem ref11_Value_s6 (n : Nat) (s0 : ByteArray) (b1 : Bool) (j2 : Int) (s3 : ByteArray) (b4 : Bool) (r5 : Rows) (i0 : Nat) (j7 : Int) : ref11_Value_l6 n s0 b1 j2 s3 b4 r5 (i0 + 1) j7 =
  bif decide (j7 < (↑(List.length r5) : Int)) then
    if 0 ≤ j7 then
      if j7 < (↑(List.length r5) : Int) then
        bif Row.S (List.getD r5 (Int.toNat j7) []) 0 == s0 then
          if 0 ≤ j7 then
            if j7 < (↑(List.length r5) : Int) then
              some (((Row.B (List.getD r5 (Int.toNat j7) []) 1, (Row.I (List.getD r5 (Int.toNat j7) []) 2, (Row.S (List.getD r5 (Int.toNat j7) []) 3, ()))), (true, ())), ())
            else none
          else none
        else ref11_Value_l6 n s0 b1 j2 s3 b4 r5 i0 (IntKind.wrap IntKind.i64 (j7 + 1))
      else none
    else none
  else some (((false, (0, (ByteArray.mk #[], ()))), (false, ())), ()) := by kernel_rfl
theorem ref11_Value_e (n : Nat) (s0 : ByteArray) (b1 : Bool) (j2 : Int) (s3 : ByteArray) (b4 : Bool) (r5 : Rows) : ref11_Value_v n s0 b1 j2 s3 b4 r5 =
  obind (ref11_none_v n s0 b1 j2 s3) fun y6 =>
  bif y6.fst then
    some (((false, (0, (ByteArray.mk #[], ()))), (false, ())), ())
  else bif s0 == ByteArray.mk #[] then
    some (((b1, (j2, (s3, ()))), (true, ())), ())
  else ref11_Value_l6 n s0 b1 j2 s3 b4 r5 n 0 := by kernel_rfl
theorem ref11_Value_c (n : Nat) (s0 : ByteArray) (b1 : Bool) (j2 : Int) (s3 : ByteArray) (b4 : Bool) (r5 : Rows) (y : ((Bool × Int × ByteArray × Unit) × Bool × Unit) × Unit) (h : ref11_Value_v n s0 b1 j2 s3 b4 r5 = some y) : Contract Try.prog 11 [AV.agg [AV.dv (DV.val (Value.string s0)), AV.dv (DV.val (Value.bool b1)), AV.dv (DV.val (Value.int IntKind.i64 j2)), AV.dv (DV.val (Value.string s3))], AV.sl b4 [Kd.s, Kd.b, Kd.i IntKind.i64, Kd.s] r5 Right.no] [] (OSh.enc (OSh.plain (.tup [.agg [.b, .i IntKind.i64, .s], .b]) []) y) :=
  auto_okM tm_std (with_ok mixed (by kernel_rfl) (ref11_Value_σok n) n 0 []) (with_pick mixed (by kernel_rfl) (ref11_Value_σok n) n 0 []) mixed Try.func11 (by decide) (o := (OSh.plain (.tup [.agg [.b, .i IntKind.i64, .s], .b]) [])) h
/-! ref11_Unify: function 13 -/
def ref11_Unify_lv : Live := []
noncomputable def ref11_Unify_σ (n : Nat) : Spec := (inst 11 [.agg [.s, .b, .i IntKind.i64, .s], .sl [Kd.s, Kd.b, Kd.i IntKind.i64, Kd.s]] [] (OSh.plain (.tup [.agg [.b, .i IntKind.i64, .s], .b]) []) (fun x e => ref11_Value_v n x.1.1 x.1.2.1 x.1.2.2.1 x.1.2.2.2.1 x.2.1.1 x.2.1.2) (inst 30 [.agg [.s, .b, .i IntKind.i64, .s]] [] (OSh.plain (.b) []) (fun x e => ref11_none_v n x.1.1 x.1.2.1 x.1.2.2.1 x.1.2.2.2.1) Spec.none))
theorem ref11_Unify_σok (n : Nat) : SpecOk Try.prog (ref11_Unify_σ n) := (inst_ok (fun x e y h => ref11_Value_c n x.1.1 x.1.2.1 x.1.2.2.1 x.1.2.2.2.1 x.2.1.1 x.2.1.2 y h) (inst_ok (fun x e y h => ref11_none_c n x.1.1 x.1.2.1 x.1.2.2.1 x.1.2.2.2.1 y h) (SpecOk.none _)))
noncomputable def ref11_Unify_Φ (n : Nat) : Orc := with_ Try.prog (ref11_Unify_σ n) [] n 0 []
noncomputable def ref11_Unify_v (n : Nat) (s0 : ByteArray) (b1 : Bool) (j2 : Int) (s3 : ByteArray) (b4 : Bool) (j5 : Int) (s6 : ByteArray) (b7 : Bool) (r8 : Rows) : Option (((Bool × Rows) × Bool × Unit) × Unit) :=
  DM.denFn tm (ref11_Unify_Φ n) ref11_Unify_lv n Try.f13 true [AV.agg [AV.dv (DV.val (Value.string s0)), AV.dv (DV.val (Value.bool b1)), AV.dv (DV.val (Value.int IntKind.i64 j2)), AV.dv (DV.val (Value.string s3))], AV.agg [AV.dv (DV.val (Value.bool b4)), AV.dv (DV.val (Value.int IntKind.i64 j5)), AV.dv (DV.val (Value.string s6))], AV.sl b7 [Kd.s, Kd.b, Kd.i IntKind.i64, Kd.s] r8 Right.no] [] (OSh.chk (OSh.plain (.tup [.slt [Kd.s, Kd.b, Kd.i IntKind.i64, Kd.s] 0, .b]) []))
theorem ref11_Unify_e (n : Nat) (s0 : ByteArray) (b1 : Bool) (j2 : Int) (s3 : ByteArray) (b4 : Bool) (j5 : Int) (s6 : ByteArray) (b7 : Bool) (r8 : Rows) : ref11_Unify_v n s0 b1 j2 s3 b4 j5 s6 b7 r8 =
  obind (ref11_Value_v n s0 b1 j2 s3 b7 r8) fun y9 =>
  if (0 + List.length r8) * 48 ≤ 140737488355328 then
    bif y9.fst.snd.fst then
      bif y9.fst.fst.fst == b4 && (y9.fst.fst.snd.fst == j5 && (y9.fst.fst.snd.snd.fst == s6 && true)) then
        some (((false && List.isEmpty r8, appX [] r8), (true, ())), ())
      else some (((true, []), (false, ())), ())
    else obind (ref11_none_v n s0 b1 j2 s3) fun y10 =>
    bif y10.fst then
      some (((true, []), (false, ())), ())
    else if (List.length (appX [] r8) + List.length [[DV.val (Value.string s0), DV.val (Value.bool b4), DV.val (Value.int IntKind.i64 j5), DV.val (Value.string s6)]]) * 48 ≤ 140737488355328 then
      some (((false && List.isEmpty r8 && List.isEmpty [[DV.val (Value.string s0), DV.val (Value.bool b4), DV.val (Value.int IntKind.i64 j5), DV.val (Value.string s6)]], appX (appX [] r8) [[DV.val (Value.string s0), DV.val (Value.bool b4), DV.val (Value.int IntKind.i64 j5), DV.val (Value.string s6)]]), (true, ())), ())
    else none
  else none := by kernel_rfl
theorem ref11_Unify_c (n : Nat) (s0 : ByteArray) (b1 : Bool) (j2 : Int) (s3 : ByteArray) (b4 : Bool) (j5 : Int) (s6 : ByteArray) (b7 : Bool) (r8 : Rows) (y : ((Bool × Rows) × Bool × Unit) × Unit) (h : ref11_Unify_v n s0 b1 j2 s3 b4 j5 s6 b7 r8 = some y) : Contract Try.prog 13 [AV.agg [AV.dv (DV.val (Value.string s0)), AV.dv (DV.val (Value.bool b1)), AV.dv (DV.val (Value.int IntKind.i64 j2)), AV.dv (DV.val (Value.string s3))], AV.agg [AV.dv (DV.val (Value.bool b4)), AV.dv (DV.val (Value.int IntKind.i64 j5)), AV.dv (DV.val (Value.string s6))], AV.sl b7 [Kd.s, Kd.b, Kd.i IntKind.i64, Kd.s] r8 Right.no] [] (OSh.enc (OSh.plain (.tup [.slt [Kd.s, Kd.b, Kd.i IntKind.i64, Kd.s] 0, .b]) []) y) :=
  auto_okM tm_std (with_ok mixed (by kernel_rfl) (ref11_Unify_σok n) n 0 []) (with_pick mixed (by kernel_rfl) (ref11_Unify_σok n) n 0 []) mixed Try.func13 (by decide) (o := (OSh.plain (.tup [.slt [Kd.s, Kd.b, Kd.i IntKind.i64, Kd.s] 0, .b]) [])) h
/-! law11_MatchTerms: function 3 -/
def law11_MatchTerms_lv : Live := []
noncomputable def law11_MatchTerms_σ (n : Nat) : Spec := (inst 9 [] [] (OSh.plain (.b) []) (fun x e => law11_live_v n) (inst 10 [.agg [.s, .b, .i IntKind.i64, .s], .sl [Kd.s, Kd.b, Kd.i IntKind.i64, Kd.s]] [] (OSh.plain (.tup [.agg [.b, .i IntKind.i64, .s], .b]) []) (fun x e => match_Value_v n x.1.1 x.1.2.1 x.1.2.2.1 x.1.2.2.2.1 x.2.1.1 x.2.1.2) (inst 11 [.agg [.s, .b, .i IntKind.i64, .s], .sl [Kd.s, Kd.b, Kd.i IntKind.i64, Kd.s]] [] (OSh.plain (.tup [.agg [.b, .i IntKind.i64, .s], .b]) []) (fun x e => ref11_Value_v n x.1.1 x.1.2.1 x.1.2.2.1 x.1.2.2.2.1 x.2.1.1 x.2.1.2) (inst 12 [.agg [.s, .b, .i IntKind.i64, .s], .agg [.b, .i IntKind.i64, .s], .sl [Kd.s, Kd.b, Kd.i IntKind.i64, Kd.s]] [] (OSh.plain (.tup [.slt [Kd.s, Kd.b, Kd.i IntKind.i64, Kd.s] 0, .b]) []) (fun x e => match_Unify_v n x.1.1 x.1.2.1 x.1.2.2.1 x.1.2.2.2.1 x.2.1.1 x.2.1.2.1 x.2.1.2.2.1 x.2.2.1.1 x.2.2.1.2) (inst 13 [.agg [.s, .b, .i IntKind.i64, .s], .agg [.b, .i IntKind.i64, .s], .sl [Kd.s, Kd.b, Kd.i IntKind.i64, Kd.s]] [] (OSh.plain (.tup [.slt [Kd.s, Kd.b, Kd.i IntKind.i64, Kd.s] 0, .b]) []) (fun x e => ref11_Unify_v n x.1.1 x.1.2.1 x.1.2.2.1 x.1.2.2.2.1 x.2.1.1 x.2.1.2.1 x.2.1.2.2.1 x.2.2.1.1 x.2.2.1.2) (inst 14 [.sl [Kd.s, Kd.b, Kd.i IntKind.i64, Kd.s], .sl [Kd.s, Kd.b, Kd.i IntKind.i64, Kd.s]] [] (OSh.plain (.b) []) (fun x e => ref11_Like_v n x.1.1 x.1.2 x.2.1.1 x.2.1.2) Spec.none))))))
theorem law11_MatchTerms_σok (n : Nat) : SpecOk Try.prog (law11_MatchTerms_σ n) := (inst_ok (fun x e y h => law11_live_c n y h) (inst_ok (fun x e y h => match_Value_c n x.1.1 x.1.2.1 x.1.2.2.1 x.1.2.2.2.1 x.2.1.1 x.2.1.2 y h) (inst_ok (fun x e y h => ref11_Value_c n x.1.1 x.1.2.1 x.1.2.2.1 x.1.2.2.2.1 x.2.1.1 x.2.1.2 y h) (inst_ok (fun x e y h => match_Unify_c n x.1.1 x.1.2.1 x.1.2.2.1 x.1.2.2.2.1 x.2.1.1 x.2.1.2.1 x.2.1.2.2.1 x.2.2.1.1 x.2.2.1.2 y h) (inst_ok (fun x e y h => ref11_Unify_c n x.1.1 x.1.2.1 x.1.2.2.1 x.1.2.2.2.1 x.2.1.1 x.2.1.2.1 x.2.1.2.2.1 x.2.2.1.1 x.2.2.1.2 y h) (inst_ok (fun x e y h => ref11_Like_c n x.1.1 x.1.2 x.2.1.1 x.2.1.2 y h) (SpecOk.none _)))))))
noncomputable def law11_MatchTerms_Φ (n : Nat) : Orc := with_ Try.prog (law11_MatchTerms_σ n) [] n 0 []
noncomputable def law11_MatchTerms_v (n : Nat) (s0 : ByteArray) (b1 : Bool) (j2 : Int) (s3 : ByteArray) (b4 : Bool) (j5 : Int) (s6 : ByteArray) (b7 : Bool) (r8 : Rows) : Option (Bool × Unit) :=
  DM.denFn tm (law11_MatchTerms_Φ n) law11_MatchTerms_lv n Try.f3 false [AV.agg [AV.dv (DV.val (Value.string s0)), AV.dv (DV.val (Value.bool b1)), AV.dv (DV.val (Value.int IntKind.i64 j2)), AV.dv (DV.val (Value.string s3))], AV.agg [AV.dv (DV.val (Value.bool b4)), AV.dv (DV.val (Value.int IntKind.i64 j5)), AV.dv (DV.val (Value.string s6))], AV.sl b7 [Kd.s, Kd.b, Kd.i IntKind.i64, Kd.s] r8 Right.no] [] (OSh.chk (OSh.plain (.b) []))
theorem law11_MatchTerms_e (n : Nat) (s0 : ByteArray) (b1 : Bool) (j2 : Int) (s3 : ByteArray) (b4 : Bool) (j5 : Int) (s6 : ByteArray) (b7 : Bool) (r8 : Rows) : law11_MatchTerms_v n s0 b1 j2 s3 b4 j5 s6 b7 r8 =
  bif decide ((↑(List.length r8) : Int) > 200) then
    obind (law11_live_v n) fun y9 =>
    some (y9.fst, ())
  else if (0 + List.length r8) * 48 ≤ 140737488355328 then
    obind (match_Value_v n s0 b1 j2 s3 (false && List.isEmpty r8) (appX [] r8)) fun y10 =>
    obind (ref11_Value_v n s0 b1 j2 s3 b7 r8) fun y11 =>
    obind (match_Unify_v n s0 b1 j2 s3 b4 j5 s6 (false && List.isEmpty r8) (appX [] r8)) fun y12 =>
    obind (ref11_Unify_v n s0 b1 j2 s3 b4 j5 s6 b7 r8) fun y13 =>
    bif y10.fst.fst.fst == y11.fst.fst.fst && (y10.fst.fst.snd.fst == y11.fst.fst.snd.fst && (y10.fst.fst.snd.snd.fst == y11.fst.fst.snd.snd.fst && true)) then
      bif y10.fst.snd.fst == y11.fst.snd.fst then
        obind (ref11_Like_v n y12.fst.fst.fst y12.fst.fst.snd y13.fst.fst.fst y13.fst.fst.snd) fun y14 =>
        bif y14.fst then
          bif y12.fst.snd.fst == y13.fst.snd.fst then
            obind (ref11_Like_v n (false && List.isEmpty r8) (appX [] r8) b7 r8) fun y15 =>
            bif y15.fst then
              obind (law11_live_v n) fun y16 =>
              some (y16.fst, ())
            else some (false, ())
          else some (false, ())
        else some (false, ())
      else some (false, ())
    else some (false, ())
  else none := by kernel_rfl
theorem law11_MatchTerms_c (n : Nat) (s0 : ByteArray) (b1 : Bool) (j2 : Int) (s3 : ByteArray) (b4 : Bool) (j5 : Int) (s6 : ByteArray) (b7 : Bool) (r8 : Rows) (y : Bool × Unit) (h : law11_MatchTerms_v n s0 b1 j2 s3 b4 j5 s6 b7 r8 = some y) : Contract Try.prog 3 [AV.agg [AV.dv (DV.val (Value.string s0)), AV.dv (DV.val (Value.bool b1)), AV.dv (DV.val (Value.int IntKind.i64 j2)), AV.dv (DV.val (Value.string s3))], AV.agg [AV.dv (DV.val (Value.bool b4)), AV.dv (DV.val (Value.int IntKind.i64 j5)), AV.dv (DV.val (Value.string s6))], AV.sl b7 [Kd.s, Kd.b, Kd.i IntKind.i64, Kd.s] r8 Right.no] [] (OSh.enc (OSh.plain (.b) []) y) :=
  auto_okM tm_std (with_ok mixed (by kernel_rfl) (law11_MatchTerms_σok n) n 0 []) (with_pick mixed (by kernel_rfl) (law11_MatchTerms_σok n) n 0 []) mixed Try.func3 (by decide) (o := (OSh.plain (.b) [])) h
/-! ref05_Weight: function 32 -/
def ref05_Weight_lv : Live := [(3, [0, 1, 5, 6], [1000, 1001, 1002, 1003]), (7, [0, 1, 5, 6, 7], [1000, 1001, 1002, 1003])]
noncomputable def ref05_Weight_σ (n : Nat) : Spec := Spec.none
theorem ref05_Weight_σok (n : Nat) : SpecOk Try.prog (ref05_Weight_σ n) := (SpecOk.none _)
noncomputable def ref05_Weight_Φ (n : Nat) : Orc := with_ Try.prog (ref05_Weight_σ n) [] n 0 []
noncomputable def ref05_Weight_v (n : Nat) (b0 : Bool) (r1 : Rows) (j2 : Int) : Option (Int × Unit) :=
  DM.denFn tm (ref05_Weight_Φ n) ref05_Weight_lv n Try.f32 false [AV.sl b0 [Kd.s, Kd.b, Kd.i IntKind.i64, Kd.s, Kd.s, Kd.sl [Kd.s, Kd.b, Kd.i IntKind.i64, Kd.s], Kd.s, Kd.b, Kd.i IntKind.i64, Kd.s, Kd.sl [Kd.s, Kd.b, Kd.i IntKind.i64, Kd.s, Kd.s, Kd.sl [Kd.s, Kd.b, Kd.i IntKind.i64, Kd.s], Kd.s, Kd.b, Kd.i IntKind.i64, Kd.s]] r1 Right.no, AV.dv (DV.val (Value.int IntKind.i64 j2))] [] (OSh.chk (OSh.plain (.i IntKind.i64) []))
noncomputable def ref05_Weight_l3 (n : Nat) (b0 : Bool) (r1 : Rows) (j2 : Int) (i0 : Nat) (j5 : Int) (j6 : Int) : Option (Int × Unit) :=
  DM.loopFn tm (ref05_Weight_Φ n) ref05_Weight_lv n Try.f32 false [] (OSh.chk (OSh.plain (.i IntKind.i64) [])) 3 [] i0 (St.mk [AV.sl b0 [Kd.s, Kd.b, Kd.i IntKind.i64, Kd.s, Kd.s, Kd.sl [Kd.s, Kd.b, Kd.i IntKind.i64, Kd.s], Kd.s, Kd.b, Kd.i IntKind.i64, Kd.s, Kd.sl [Kd.s, Kd.b, Kd.i IntKind.i64, Kd.s, Kd.s, Kd.sl [Kd.s, Kd.b, Kd.i IntKind.i64, Kd.s], Kd.s, Kd.b, Kd.i IntKind.i64, Kd.s]] r1 Right.no, AV.dv (DV.val (Value.int IntKind.i64 j2)), AV.junk, AV.junk, AV.junk, AV.dv (DV.val (Value.int IntKind.i64 j5)), AV.dv (DV.val (Value.int IntKind.i64 j6)), AV.junk, AV.junk, AV.junk, AV.junk, AV.junk, AV.junk, AV.junk, AV.junk, AV.junk, AV.junk, AV.junk, AV.junk, AV.junk, AV.junk, AV.junk, AV.junk, AV.junk, AV.junk, AV.junk, AV.junk, AV.junk, AV.junk, AV.junk, AV.junk, AV.junk, AV.junk, AV.junk, AV.junk, AV.junk, AV.junk, AV.junk, AV.junk, AV.junk, AV.junk, AV.junk, AV.junk, AV.junk, AV.junk, AV.junk, AV.junk, AV.junk, AV.junk, AV.junk, AV.junk, AV.junk, AV.junk, AV.junk, AV.junk, AV.junk, AV.junk, AV.junk, AV.junk, AV.junk, AV.junk, AV.junk, AV.junk, AV.junk, AV.junk, AV.junk, AV.junk, AV.junk, AV.junk, AV.junk, AV.junk, AV.junk, AV.junk, AV.junk, AV.junk, AV.junk, AV.junk] [])
noncomputable def ref05_Weight_l7 (n : Nat) (b0 : Bool) (r1 : Rows) (j2 : Int) (i0 i1 : Nat) (j3 : Int) (j4 : Int) (j7 : Int) : Option (Int × Unit) :=
  DM.loopFn tm (ref05_Weight_Φ n) ref05_Weight_lv n Try.f32 false [] (OSh.chk (OSh.plain (.i IntKind.i64) [])) 7 [i0] i1 (St.mk [AV.sl b0 [Kd.s, Kd.b, Kd.i IntKind.i64, Kd.s, Kd.s, Kd.sl [Kd.s, Kd.b, Kd.i IntKind.i64, Kd.s], Kd.s, Kd.b, Kd.i IntKind.i64, Kd.s, Kd.sl [Kd.s, Kd.b, Kd.i IntKind.i64, Kd.s, Kd.s, Kd.sl [Kd.s, Kd.b, Kd.i IntKind.i64, Kd.s], Kd.s, Kd.b, Kd.i IntKind.i64, Kd.s]] r1 Right.no, AV.dv (DV.val (Value.int IntKind.i64 j2)), AV.junk, AV.junk, AV.junk, AV.dv (DV.val (Value.int IntKind.i64 j3)), AV.dv (DV.val (Value.int IntKind.i64 j7)), AV.dv (DV.val (Value.int IntKind.i64 j4)), AV.junk, AV.junk, AV.junk, AV.junk, AV.junk, AV.junk, AV.junk, AV.junk, AV.junk, AV.junk, AV.junk, AV.junk, AV.junk, AV.junk, AV.junk, AV.junk, AV.junk, AV.junk, AV.junk, AV.junk, AV.junk, AV.junk, AV.junk, AV.junk, AV.junk, AV.junk, AV.junk, AV.junk, AV.junk, AV.junk, AV.junk, AV.junk, AV.junk, AV.junk, AV.junk, AV.junk, AV.junk, AV.junk, AV.junk, AV.junk, AV.junk, AV.junk, AV.junk, AV.junk, AV.junk, AV.junk, AV.junk, AV.junk, AV.junk, AV.junk, AV.junk, AV.junk, AV.junk, AV.junk, AV.junk, AV.junk, AV.junk, AV.junk, AV.junk, AV.junk, AV.junk, AV.junk, AV.junk, AV.junk, AV.junk, AV.junk, AV.junk, AV.junk, AV.junk] [])
theorem ref05_Weight_s3 (n : Nat) (b0 : Bool) (r1 : Rows) (j2 : Int) (i0 : Nat) (j5 : Int) (j6 : Int) : ref05_Weight_l3 n b0 r1 j2 (i0 + 1) j5 j6 =
  bif decide (j6 < (↑(List.length r1) : Int)) then
    bif decide (j5 ≤ j2) then
      if 0 ≤ j6 then
        if j6 < (↑(List.length r1) : Int) then
          if 0 ≤ j6 then
            if j6 < (↑(List.length r1) : Int) then
              ref05_Weight_l7 n b0 r1 j2 i0 n (IntKind.wrap IntKind.i64 (j5 + IntKind.wrap IntKind.i64 (IntKind.wrap IntKind.i64 (1 + (↑(List.length (Row.R (List.getD r1 (Int.toNat j6) []) 5)) : Int)) + IntKind.wrap IntKind.i64 (Int.tdiv (↑(ByteArray.size (Row.S (List.getD r1 (Int.toNat j6) []) 4)) : Int) 16)))) 0 j6
            else none
          else none
        else none
      else none
    else some (j5, ())
  else some (j5, ()) := by kernel_rfl
theorem ref05_Weight_s7 (n : Nat) (b0 : Bool) (r1 : Rows) (j2 : Int) (i0 i1 : Nat) (j3 : Int) (j4 : Int) (j7 : Int) : ref05_Weight_l7 n b0 r1 j2 i0 (i1 + 1) j3 j4 j7 =
  if 0 ≤ j7 then
    if j7 < (↑(List.length r1) : Int) then
      bif decide (j4 < (↑(List.length (Row.R (List.getD r1 (Int.toNat j7) []) 10)) : Int)) then
        bif decide (j3 ≤ j2) then
          if 0 ≤ j7 then
            if j7 < (↑(List.length r1) : Int) then
              if 0 ≤ j4 then
                if j4 < (↑(List.length (Row.R (List.getD r1 (Int.toNat j7) []) 10)) : Int) then
                  if 0 ≤ j7 then
                    if j7 < (↑(List.length r1) : Int) then
                      if 0 ≤ j4 then
                        if j4 < (↑(List.length (Row.R (List.getD r1 (Int.toNat j7) []) 10)) : Int) then
                          ref05_Weight_l7 n b0 r1 j2 i0 i1 (IntKind.wrap IntKind.i64 (j3 + IntKind.wrap IntKind.i64 (IntKind.wrap IntKind.i64 (1 + (↑(List.length (Row.R (List.getD (Row.R (List.getD r1 (Int.toNat j7) []) 10) (Int.toNat j4) []) 5)) : Int)) + IntKind.wrap IntKind.i64 (Int.tdiv (↑(ByteArray.size (Row.S (List.getD (Row.R (List.getD r1 (Int.toNat j7) []) 10) (Int.toNat j4) []) 4)) : Int) 16)))) (IntKind.wrap IntKind.i64 (j4 + 1)) j7
                        else none
                      else none
                    else none
                  else none
                else none
              else none
            else none
          else none
        else ref05_Weight_l3 n b0 r1 j2 i0 j3 (IntKind.wrap IntKind.i64 (j7 + 1))
      else ref05_Weight_l3 n b0 r1 j2 i0 j3 (IntKind.wrap IntKind.i64 (j7 + 1))
    else none
  else none := by kernel_rfl
theorem ref05_Weight_e (n : Nat) (b0 : Bool) (r1 : Rows) (j2 : Int) : ref05_Weight_v n b0 r1 j2 =
  ref05_Weight_l3 n b0 r1 j2 n 0 0 := by kernel_rfl
theorem ref05_Weight_c (n : Nat) (b0 : Bool) (r1 : Rows) (j2 : Int) (y : Int × Unit) (h : ref05_Weight_v n b0 r1 j2 = some y) : Contract Try.prog 32 [AV.sl b0 [Kd.s, Kd.b, Kd.i IntKind.i64, Kd.s, Kd.s, Kd.sl [Kd.s, Kd.b, Kd.i IntKind.i64, Kd.s], Kd.s, Kd.b, Kd.i IntKind.i64, Kd.s, Kd.sl [Kd.s, Kd.b, Kd.i IntKind.i64, Kd.s, Kd.s, Kd.sl [Kd.s, Kd.b, Kd.i IntKind.i64, Kd.s], Kd.s, Kd.b, Kd.i IntKind.i64, Kd.s]] r1 Right.no, AV.dv (DV.val (Value.int IntKind.i64 j2))] [] (OSh.enc (OSh.plain (.i IntKind.i64) []) y) :=
  auto_okM tm_std (with_ok mixed (by kernel_rfl) (ref05_Weight_σok n) n 0 []) (with_pick mixed (by kernel_rfl) (ref05_Weight_σok n) n 0 []) mixed Try.func32 (by decide) (o := (OSh.plain (.i IntKind.i64) [])) h
/-! ref04_Weight: function 33 -/
def ref04_Weight_lv : Live := [(3, [0, 1, 5, 6], [1000, 1001, 1002, 1003]), (7, [0, 1, 5, 6, 7], [1000, 1001, 1002, 1003])]
noncomputable def ref04_Weight_σ (n : Nat) : Spec := Spec.none
theorem ref04_Weight_σok (n : Nat) : SpecOk Try.prog (ref04_Weight_σ n) := (SpecOk.none _)
noncomputable def ref04_Weight_Φ (n : Nat) : Orc := with_ Try.prog (ref04_Weight_σ n) [] n 0 []
noncomputable def ref04_Weight_v (n : Nat) (b0 : Bool) (r1 : Rows) (j2 : Int) : Option (Int × Unit) :=
  DM.denFn tm (ref04_Weight_Φ n) ref04_Weight_lv n Try.f33 false [AV.sl b0 [Kd.s, Kd.s, Kd.s, Kd.sl [Kd.b, Kd.i IntKind.i64, Kd.s]] r1 Right.no, AV.dv (DV.val (Value.int IntKind.i64 j2))] [] (OSh.chk (OSh.plain (.i IntKind.i64) []))
noncomputable def ref04_Weight_l3 (n : Nat) (b0 : Bool) (r1 : Rows) (j2 : Int) (i0 : Nat) (j5 : Int) (j6 : Int) : Option (Int × Unit) :=
  DM.loopFn tm (ref04_Weight_Φ n) ref04_Weight_lv n Try.f33 false [] (OSh.chk (OSh.plain (.i IntKind.i64) [])) 3 [] i0 (St.mk [AV.sl b0 [Kd.s, Kd.s, Kd.s, Kd.sl [Kd.b, Kd.i IntKind.i64, Kd.s]] r1 Right.no, AV.dv (DV.val (Value.int IntKind.i64 j2)), AV.junk, AV.junk, AV.junk, AV.dv (DV.val (Value.int IntKind.i64 j5)), AV.dv (DV.val (Value.int IntKind.i64 j6)), AV.junk, AV.junk, AV.junk, AV.junk, AV.junk, AV.junk, AV.junk, AV.junk, AV.junk, AV.junk, AV.junk, AV.junk, AV.junk, AV.junk, AV.junk, AV.junk, AV.junk, AV.junk, AV.junk, AV.junk, AV.junk, AV.junk, AV.junk, AV.junk, AV.junk, AV.junk, AV.junk, AV.junk, AV.junk, AV.junk, AV.junk, AV.junk, AV.junk, AV.junk, AV.junk, AV.junk, AV.junk, AV.junk, AV.junk, AV.junk, AV.junk, AV.junk, AV.junk, AV.junk, AV.junk, AV.junk, AV.junk, AV.junk, AV.junk, AV.junk, AV.junk, AV.junk, AV.junk, AV.junk, AV.junk, AV.junk, AV.junk, AV.junk, AV.junk, AV.junk, AV.junk, AV.junk, AV.junk, AV.junk, AV.junk, AV.junk, AV.junk, AV.junk, AV.junk, AV.junk, AV.junk, AV.junk] [])
noncomputable def ref04_Weight_l7 (n : Nat) (b0 : Bool) (r1 : Rows) (j2 : Int) (i0 i1 : Nat) (j3 : Int) (j4 : Int) (j7 : Int) : Option (Int × Unit) :=
  DM.loopFn tm (ref04_Weight_Φ n) ref04_Weight_lv n Try.f33 false [] (OSh.chk (OSh.plain (.i IntKind.i64) [])) 7 [i0] i1 (St.mk [AV.sl b0 [Kd.s, Kd.s, Kd.s, Kd.sl [Kd.b, Kd.i IntKind.i64, Kd.s]] r1 Right.no, AV.dv (DV.val (Value.int IntKind.i64 j2)), AV.junk, AV.junk, AV.junk, AV.dv (DV.val (Value.int IntKind.i64 j3)), AV.dv (DV.val (Value.int IntKind.i64 j7)), AV.dv (DV.val (Value.int IntKind.i64 j4)), AV.junk, AV.junk, AV.junk, AV.junk, AV.junk, AV.junk, AV.junk, AV.junk, AV.junk, AV.junk, AV.junk, AV.junk, AV.junk, AV.junk, AV.junk, AV.junk, AV.junk, AV.junk, AV.junk, AV.junk, AV.junk, AV.junk, AV.junk, AV.junk, AV.junk, AV.junk, AV.junk, AV.junk, AV.junk, AV.junk, AV.junk, AV.junk, AV.junk, AV.junk, AV.junk, AV.junk, AV.junk, AV.junk, AV.junk, AV.junk, AV.junk, AV.junk, AV.junk, AV.junk, AV.junk, AV.junk, AV.junk, AV.junk, AV.junk, AV.junk, AV.junk, AV.junk, AV.junk, AV.junk, AV.junk, AV.junk, AV.junk, AV.junk, AV.junk, AV.junk, AV.junk, AV.junk, AV.junk, AV.junk, AV.junk, AV.junk, AV.junk, AV.junk, AV.junk, AV.junk, AV.junk] [])
theorem ref04_Weight_s3 (n : Nat) (b0 : Bool) (r1 : Rows) (j2 : Int) (i0 : Nat) (j5 : Int) (j6 : Int) : ref04_Weight_l3 n b0 r1 j2 (i0 + 1) j5 j6 =
  bif decide (j6 < (↑(List.length r1) : Int)) then
    bif decide (j5 ≤ j2) then
      if 0 ≤ j6 then
        if j6 < (↑(List.length r1) : Int) then
          if 0 ≤ j6 then
            if j6 < (↑(List.length r1) : Int) then
              if 0 ≤ j6 then
                if j6 < (↑(List.length r1) : Int) then
                  if 0 ≤ j6 then
                    if j6 < (↑(List.length r1) : Int) then
                      ref04_Weight_l7 n b0 r1 j2 i0 n (IntKind.wrap IntKind.i64 (j5 + IntKind.wrap IntKind.i64 (IntKind.wrap IntKind.i64 (1 + (↑(List.length (Row.R (List.getD r1 (Int.toNat j6) []) 3)) : Int)) + IntKind.wrap IntKind.i64 (Int.tdiv (IntKind.wrap IntKind.i64 (IntKind.wrap IntKind.i64 ((↑(ByteArray.size (Row.S (List.getD r1 (Int.toNat j6) []) 0)) : Int) + (↑(ByteArray.size (Row.S (List.getD r1 (Int.toNat j6) []) 1)) : Int)) + (↑(ByteArray.size (Row.S (List.getD r1 (Int.toNat j6) []) 2)) : Int))) 16)))) 0 j6
                    else none
                  else none
                else none
              else none
            else none
          else none
        else none
      else none
    else some (j5, ())
  else some (j5, ()) := by kernel_rfl
theorem ref04_Weight_s7 (n : Nat) (b0 : Bool) (r1 : Rows) (j2 : Int) (i0 i1 : Nat) (j3 : Int) (j4 : Int) (j7 : Int) : ref04_Weight_l7 n b0 r1 j2 i0 (i1 + 1) j3 j4 j7 =
  if 0 ≤ j7 then
    if j7 < (↑(List.length r1) : Int) then
      bif decide (j4 < (↑(List.length (Row.R (List.getD r1 (Int.toNat j7) []) 3)) : Int)) then
        bif decide (j3 ≤ j2) then
          if 0 ≤ j7 then
            if j7 < (↑(List.length r1) : Int) then
              if 0 ≤ j4 then
                if j4 < (↑(List.length (Row.R (List.getD r1 (Int.toNat j7) []) 3)) : Int) then
                  ref04_Weight_l7 n b0 r1 j2 i0 i1 (IntKind.wrap IntKind.i64 (j3 + IntKind.wrap IntKind.i64 (Int.tdiv (↑(ByteArray.size (Row.S (List.getD (Row.R (List.getD r1 (Int.toNat j7) []) 3) (Int.toNat j4) []) 2)) : Int) 16))) (IntKind.wrap IntKind.i64 (j4 + 1)) j7
                else none
              else none
            else none
          else none
        else ref04_Weight_l3 n b0 r1 j2 i0 j3 (IntKind.wrap IntKind.i64 (j7 + 1))
      else ref04_Weight_l3 n b0 r1 j2 i0 j3 (IntKind.wrap IntKind.i64 (j7 + 1))
    else none
  else none := by kernel_rfl
theorem ref04_Weight_e (n : Nat) (b0 : Bool) (r1 : Rows) (j2 : Int) : ref04_Weight_v n b0 r1 j2 =
  ref04_Weight_l3 n b0 r1 j2 n 0 0 := by kernel_rfl
theorem ref04_Weight_c (n : Nat) (b0 : Bool) (r1 : Rows) (j2 : Int) (y : Int × Unit) (h : ref04_Weight_v n b0 r1 j2 = some y) : Contract Try.prog 33 [AV.sl b0 [Kd.s, Kd.s, Kd.s, Kd.sl [Kd.b, Kd.i IntKind.i64, Kd.s]] r1 Right.no, AV.dv (DV.val (Value.int IntKind.i64 j2))] [] (OSh.enc (OSh.plain (.i IntKind.i64) []) y) :=
  auto_okM tm_std (with_ok mixed (by kernel_rfl) (ref04_Weight_σok n) n 0 []) (with_pick mixed (by kernel_rfl) (ref04_Weight_σok n) n 0 []) mixed Try.func33 (by decide) (o := (OSh.plain (.i IntKind.i64) [])) h
/-! law11_light: function 15 -/
def law11_light_lv : Live := []
noncomputable def law11_light_σ (n : Nat) : Spec := (inst 32 [.sl [Kd.s, Kd.b, Kd.i IntKind.i64, Kd.s, Kd.s, Kd.sl [Kd.s, Kd.b, Kd.i IntKind.i64, Kd.s], Kd.s, Kd.b, Kd.i IntKind.i64, Kd.s, Kd.sl [Kd.s, Kd.b, Kd.i IntKind.i64, Kd.s, Kd.s, Kd.sl [Kd.s, Kd.b, Kd.i IntKind.i64, Kd.s], Kd.s, Kd.b, Kd.i IntKind.i64, Kd.s]], .i IntKind.i64] [] (OSh.plain (.i IntKind.i64) []) (fun x e => ref05_Weight_v n x.1.1 x.1.2 x.2.1) (inst 33 [.sl [Kd.s, Kd.s, Kd.s, Kd.sl [Kd.b, Kd.i IntKind.i64, Kd.s]], .i IntKind.i64] [] (OSh.plain (.i IntKind.i64) []) (fun x e => ref04_Weight_v n x.1.1 x.1.2 x.2.1) Spec.none))
theorem law11_light_σok (n : Nat) : SpecOk Try.prog (law11_light_σ n) := (inst_ok (fun x e y h => ref05_Weight_c n x.1.1 x.1.2 x.2.1 y h) (inst_ok (fun x e y h => ref04_Weight_c n x.1.1 x.1.2 x.2.1 y h) (SpecOk.none _)))
noncomputable def law11_light_Φ (n : Nat) : Orc := with_ Try.prog (law11_light_σ n) [] n 0 []
noncomputable def law11_light_v (n : Nat) (s0 : ByteArray) (b1 : Bool) (j2 : Int) (s3 : ByteArray) (s4 : ByteArray) (b5 : Bool) (r6 : Rows) (s7 : ByteArray) (b8 : Bool) (j9 : Int) (s10 : ByteArray) (b11 : Bool) (r12 : Rows) (b13 : Bool) (r14 : Rows) (b15 : Bool) (r16 : Rows) : Option (Bool × Unit) :=
  DM.denFn tm (law11_light_Φ n) law11_light_lv n Try.f15 false [AV.agg [AV.dv (DV.val (Value.string s0)), AV.dv (DV.val (Value.bool b1)), AV.dv (DV.val (Value.int IntKind.i64 j2)), AV.dv (DV.val (Value.string s3)), AV.dv (DV.val (Value.string s4)), AV.sl b5 [Kd.s, Kd.b, Kd.i IntKind.i64, Kd.s] r6 Right.no, AV.dv (DV.val (Value.string s7)), AV.dv (DV.val (Value.bool b8)), AV.dv (DV.val (Value.int IntKind.i64 j9)), AV.dv (DV.val (Value.string s10)), AV.sl b11 [Kd.s, Kd.b, Kd.i IntKind.i64, Kd.s, Kd.s, Kd.sl [Kd.s, Kd.b, Kd.i IntKind.i64, Kd.s], Kd.s, Kd.b, Kd.i IntKind.i64, Kd.s] r12 Right.no], AV.sl b13 [Kd.s, Kd.s, Kd.s, Kd.sl [Kd.b, Kd.i IntKind.i64, Kd.s]] r14 Right.no, AV.sl b15 [Kd.s, Kd.b, Kd.i IntKind.i64, Kd.s] r16 Right.no] [] (OSh.chk (OSh.plain (.b) []))
theorem law11_light_e (n : Nat) (s0 : ByteArray) (b1 : Bool) (j2 : Int) (s3 : ByteArray) (s4 : ByteArray) (b5 : Bool) (r6 : Rows) (s7 : ByteArray) (b8 : Bool) (j9 : Int) (s10 : ByteArray) (b11 : Bool) (r12 : Rows) (b13 : Bool) (r14 : Rows) (b15 : Bool) (r16 : Rows) : law11_light_v n s0 b1 j2 s3 s4 b5 r6 s7 b8 j9 s10 b11 r12 b13 r14 b15 r16 =
  obind (ref05_Weight_v n false ([[DV.val (Value.string s0), DV.val (Value.bool b1), DV.val (Value.int IntKind.i64 j2), DV.val (Value.string s3), DV.val (Value.string s4), DV.sl b5 [Kd.s, Kd.b, Kd.i IntKind.i64, Kd.s] r6, DV.val (Value.string s7), DV.val (Value.bool b8), DV.val (Value.int IntKind.i64 j9), DV.val (Value.string s10), DV.sl b11 [Kd.s, Kd.b, Kd.i IntKind.i64, Kd.s, Kd.s, Kd.sl [Kd.s, Kd.b, Kd.i IntKind.i64, Kd.s], Kd.s, Kd.b, Kd.i IntKind.i64, Kd.s] r12]]) 200) fun y17 =>
  bif decide (y17.fst ≤ 200) then
    obind (ref04_Weight_v n b13 r14 200) fun y18 =>
    bif decide (y18.fst ≤ 200) then
      some (decide ((↑(List.length r16) : Int) ≤ 200), ())
    else some (false, ())
  else some (false, ()) := by kernel_rfl
theorem law11_light_c (n : Nat) (s0 : ByteArray) (b1 : Bool) (j2 : Int) (s3 : ByteArray) (s4 : ByteArray) (b5 : Bool) (r6 : Rows) (s7 : ByteArray) (b8 : Bool) (j9 : Int) (s10 : ByteArray) (b11 : Bool) (r12 : Rows) (b13 : Bool) (r14 : Rows) (b15 : Bool) (r16 : Rows) (y : Bool × Unit) (h : law11_light_v n s0 b1 j2 s3 s4 b5 r6 s7 b8 j9 s10 b11 r12 b13 r14 b15 r16 = some y) : Contract Try.prog 15 [AV.agg [AV.dv (DV.val (Value.string s0)), AV.dv (DV.val (Value.bool b1)), AV.dv (DV.val (Value.int IntKind.i64 j2)), AV.dv (DV.val (Value.string s3)), AV.dv (DV.val (Value.string s4)), AV.sl b5 [Kd.s, Kd.b, Kd.i IntKind.i64, Kd.s] r6 Right.no, AV.dv (DV.val (Value.string s7)), AV.dv (DV.val (Value.bool b8)), AV.dv (DV.val (Value.int IntKind.i64 j9)), AV.dv (DV.val (Value.string s10)), AV.sl b11 [Kd.s, Kd.b, Kd.i IntKind.i64, Kd.s, Kd.s, Kd.sl [Kd.s, Kd.b, Kd.i IntKind.i64, Kd.s], Kd.s, Kd.b, Kd.i IntKind.i64, Kd.s] r12 Right.no], AV.sl b13 [Kd.s, Kd.s, Kd.s, Kd.sl [Kd.b, Kd.i IntKind.i64, Kd.s]] r14 Right.no, AV.sl b15 [Kd.s, Kd.b, Kd.i IntKind.i64, Kd.s] r16 Right.no] [] (OSh.enc (OSh.plain (.b) []) y) :=
  auto_okM tm_std (with_ok mixed (by kernel_rfl) (law11_light_σok n) n 0 []) (with_pick mixed (by kernel_rfl) (law11_light_σok n) n 0 []) mixed Try.func15 (by decide) (o := (OSh.plain (.b) [])) h
/-! match_Literal: function 16 -/
def match_Literal_lv : Live := [(10, [3, 6, 10, 61, 62, 63], [6, 1000, 1001, 1002, 1003])]
noncomputable def match_Literal_σ (n : Nat) : Spec := (inst 34 [.agg [.s, .b, .i IntKind.i64, .s], .agg [.s, .b, .i IntKind.i64, .s]] [] (OSh.plain (.agg [.s, .b, .i IntKind.i64, .s]) []) (fun x e => match_or_v n x.1.1 x.1.2.1 x.1.2.2.1 x.1.2.2.2.1 x.2.1.1 x.2.1.2.1 x.2.1.2.2.1 x.2.1.2.2.2.1) (inst 35 [.s] [] (OSh.plain (.agg [.b, .i IntKind.i64, .s]) []) (fun x e => match_text_v n x.1) (inst 12 [.agg [.s, .b, .i IntKind.i64, .s], .agg [.b, .i IntKind.i64, .s], .sl [Kd.s, Kd.b, Kd.i IntKind.i64, Kd.s]] [] (OSh.plain (.tup [.slt [Kd.s, Kd.b, Kd.i IntKind.i64, Kd.s] 0, .b]) []) (fun x e => match_Unify_v n x.1.1 x.1.2.1 x.1.2.2.1 x.1.2.2.2.1 x.2.1.1 x.2.1.2.1 x.2.1.2.2.1 x.2.2.1.1 x.2.2.1.2) Spec.none)))
theorem match_Literal_σok (n : Nat) : SpecOk Try.prog (match_Literal_σ n) := (inst_ok (fun x e y h => match_or_c n x.1.1 x.1.2.1 x.1.2.2.1 x.1.2.2.2.1 x.2.1.1 x.2.1.2.1 x.2.1.2.2.1 x.2.1.2.2.2.1 y h) (inst_ok (fun x e y h => match_text_c n x.1 y h) (inst_ok (fun x e y h => match_Unify_c n x.1.1 x.1.2.1 x.1.2.2.1 x.1.2.2.2.1 x.2.1.1 x.2.1.2.1 x.2.1.2.2.1 x.2.2.1.1 x.2.2.1.2 y h) (SpecOk.none _))))
noncomputable def match_Literal_Φ (n : Nat) : Orc := with_ Try.prog (match_Literal_σ n) [] n 0 []
noncomputable def match_Literal_v (n : Nat) (s0 : ByteArray) (b1 : Bool) (j2 : Int) (s3 : ByteArray) (s4 : ByteArray) (b5 : Bool) (j6 : Int) (s7 : ByteArray) (s8 : ByteArray) (b9 : Bool) (r10 : Rows) (s11 : ByteArray) (b12 : Bool) (j13 : Int) (s14 : ByteArray) (s15 : ByteArray) (s16 : ByteArray) (s17 : ByteArray) (b18 : Bool) (r19 : Rows) (b20 : Bool) (r21 : Rows) : Option (((Bool × Rows) × Bool × Unit) × Unit) :=
  DM.denFn tm (match_Literal_Φ n) match_Literal_lv n Try.f16 true [AV.agg [AV.dv (DV.val (Value.string s0)), AV.dv (DV.val (Value.bool b1)), AV.dv (DV.val (Value.int IntKind.i64 j2)), AV.dv (DV.val (Value.string s3))], AV.agg [AV.dv (DV.val (Value.string s4)), AV.dv (DV.val (Value.bool b5)), AV.dv (DV.val (Value.int IntKind.i64 j6)), AV.dv (DV.val (Value.string s7)), AV.dv (DV.val (Value.string s8)), AV.sl b9 [Kd.s, Kd.b, Kd.i IntKind.i64, Kd.s] r10 Right.no, AV.dv (DV.val (Value.string s11)), AV.dv (DV.val (Value.bool b12)), AV.dv (DV.val (Value.int IntKind.i64 j13)), AV.dv (DV.val (Value.string s14))], AV.agg [AV.dv (DV.val (Value.string s15)), AV.dv (DV.val (Value.string s16)), AV.dv (DV.val (Value.string s17)), AV.sl b18 [Kd.b, Kd.i IntKind.i64, Kd.s] r19 Right.no], AV.sl b20 [Kd.s, Kd.b, Kd.i IntKind.i64, Kd.s] r21 Right.no] [] (OSh.chk (OSh.plain (.tup [.slt [Kd.s, Kd.b, Kd.i IntKind.i64, Kd.s] 0, .b]) []))
noncomputable def match_Literal_l10 (n : Nat) (s0 : ByteArray) (b1 : Bool) (j2 : Int) (s3 : ByteArray) (s4 : ByteArray) (b5 : Bool) (j6 : Int) (s7 : ByteArray) (s8 : ByteArray) (b9 : Bool) (r10 : Rows) (s11 : ByteArray) (b12 : Bool) (j13 : Int) (s14 : ByteArray) (s15 : ByteArray) (s16 : ByteArray) (s17 : ByteArray) (b18 : Bool) (r19 : Rows) (b20 : Bool) (r21 : Rows) (i0 : Nat) (b27 : Bool) (r28 : List (List DV)) (b29 : Bool) (j31 : Int) : Option (((Bool × Rows) × Bool × Unit) × Unit) :=
  DM.loopFn tm (match_Literal_Φ n) match_Literal_lv n Try.f16 true [] (OSh.chk (OSh.plain (.tup [.slt [Kd.s, Kd.b, Kd.i IntKind.i64, Kd.s] 0, .b]) [])) 10 [] i0 (St.mk [AV.junk, AV.junk, AV.junk, AV.sl b27 [Kd.s, Kd.b, Kd.i IntKind.i64, Kd.s] r28 (Right.tok 3), AV.junk, AV.junk, AV.pl 6 0, AV.junk, AV.junk, AV.junk, AV.dv (DV.val (Value.bool b29)), AV.junk, AV.junk, AV.junk, AV.junk, AV.junk, AV.junk, AV.junk, AV.junk, AV.junk, AV.junk, AV.junk, AV.junk, AV.junk, AV.junk, AV.junk, AV.junk, AV.junk, AV.junk, AV.junk, AV.junk, AV.junk, AV.junk, AV.junk, AV.junk, AV.junk, AV.junk, AV.junk, AV.junk, AV.junk, AV.junk, AV.junk, AV.junk, AV.junk, AV.junk, AV.junk, AV.junk, AV.junk, AV.junk, AV.junk, AV.junk, AV.junk, AV.junk, AV.junk, AV.junk, AV.junk, AV.junk, AV.junk, AV.junk, AV.junk, AV.junk, AV.sl b9 [Kd.s, Kd.b, Kd.i IntKind.i64, Kd.s] r10 Right.no, AV.dv (DV.val (Value.int IntKind.i64 (↑(List.length r10) : Int))), AV.dv (DV.val (Value.int IntKind.i64 j31)), AV.junk, AV.junk, AV.junk, AV.junk, AV.junk, AV.junk, AV.junk, AV.junk, AV.junk, AV.junk, AV.junk, AV.junk, AV.junk, AV.junk, AV.junk, AV.junk, AV.junk, AV.junk, AV.junk, AV.junk, AV.junk] [(6, [AV.dv (DV.val (Value.string s15)), AV.dv (DV.val (Value.string s16)), AV.dv (DV.val (Value.string s17)), AV.sl b18 [Kd.b, Kd.i IntKind.i64, Kd.s] r19 Right.no])])
theorem match_Literal_s10 (n : Nat) (s0 : ByteArray) (b1 : Bool) (j2 : Int) (s3 : ByteArray) (s4 : ByteArray) (b5 : Bool) (j6 : Int) (s7 : ByteArray) (s8 : ByteArray) (b9 : Bool) (r10 : Rows) (s11 : ByteArray) (b12 : Bool) (j13 : Int) (s14 : ByteArray) (s15 : ByteArray) (s16 : ByteArray) (s17 : ByteArray) (b18 : Bool) (r19 : Rows) (b20 : Bool) (r21 : Rows) (i0 : Nat) (b27 : Bool) (r28 : List (List DV)) (b29 : Bool) (j31 : Int) : match_Literal_l10 n s0 b1 j2 s3 s4 b5 j6 s7 s8 b9 r10 s11 b12 j13 s14 s15 s16 s17 b18 r19 b20 r21 (i0 + 1) b27 r28 b29 j31 =
  bif decide (j31 < (↑(List.length r10) : Int)) then
    if 0 ≤ j31 then
      if j31 < (↑(List.length r10) : Int) then
        bif !b29 then
          bif !b29 then
            some (((true, []), (false, ())), ())
          else some (((b27, r28), (true, ())), ())
        else if 0 ≤ j31 then
          if j31 < (↑(List.length r19) : Int) then
            obind (match_Unify_v n (Row.S (List.getD r10 (Int.toNat j31) []) 0) (Row.B (List.getD r10 (Int.toNat j31) []) 1) (Row.I (List.getD r10 (Int.toNat j31) []) 2) (Row.S (List.getD r10 (Int.toNat j31) []) 3) (Row.B (List.getD r19 (Int.toNat j31) []) 0) (Row.I (List.getD r19 (Int.toNat j31) []) 1) (Row.S (List.getD r19 (Int.toNat j31) []) 2) b27 r28) fun y32 =>
            match_Literal_l10 n s0 b1 j2 s3 s4 b5 j6 s7 s8 b9 r10 s11 b12 j13 s14 s15 s16 s17 b18 r19 b20 r21 i0 y32.fst.fst.fst y32.fst.fst.snd y32.fst.snd.fst (IntKind.wrap IntKind.i64 (j31 + 1))
          else none
        else none
      else none
    else none
  else bif !b29 then
    some (((true, []), (false, ())), ())
  else some (((b27, r28), (true, ())), ()) := by kernel_rfl
theorem match_Literal_e (n : Nat) (s0 : ByteArray) (b1 : Bool) (j2 : Int) (s3 : ByteArray) (s4 : ByteArray) (b5 : Bool) (j6 : Int) (s7 : ByteArray) (s8 : ByteArray) (b9 : Bool) (r10 : Rows) (s11 : ByteArray) (b12 : Bool) (j13 : Int) (s14 : ByteArray) (s15 : ByteArray) (s16 : ByteArray) (s17 : ByteArray) (b18 : Bool) (r19 : Rows) (b20 : Bool) (r21 : Rows) : match_Literal_v n s0 b1 j2 s3 s4 b5 j6 s7 s8 b9 r10 s11 b12 j13 s14 s15 s16 s17 b18 r19 b20 r21 =
  bif !s8 == s17 then
    some (((true, []), (false, ())), ())
  else bif (↑(List.length r10) : Int) != (↑(List.length r19) : Int) then
    some (((true, []), (false, ())), ())
  else obind (match_or_v n s11 b12 j13 s14 s0 b1 j2 s3) fun y22 =>
  obind (match_text_v n s15) fun y23 =>
  obind (match_Unify_v n y22.fst.fst y22.fst.snd.fst y22.fst.snd.snd.fst y22.fst.snd.snd.snd.fst y23.fst.fst y23.fst.snd.fst y23.fst.snd.snd.fst b20 r21) fun y24 =>
  bif !y24.fst.snd.fst then
    some (((true, []), (false, ())), ())
  else bif s4 == ByteArray.mk #[] && (b5 == false && (j6 == 0 && (s7 == ByteArray.mk #[] && true))) then
    match_Literal_l10 n s0 b1 j2 s3 s4 b5 j6 s7 s8 b9 r10 s11 b12 j13 s14 s15 s16 s17 b18 r19 b20 r21 n y24.fst.fst.fst y24.fst.fst.snd (s16 == s15) 0
  else obind (match_text_v n s16) fun y25 =>
  obind (match_Unify_v n s4 b5 j6 s7 y25.fst.fst y25.fst.snd.fst y25.fst.snd.snd.fst y24.fst.fst.fst y24.fst.fst.snd) fun y26 =>
  match_Literal_l10 n s0 b1 j2 s3 s4 b5 j6 s7 s8 b9 r10 s11 b12 j13 s14 s15 s16 s17 b18 r19 b20 r21 n y26.fst.fst.fst y26.fst.fst.snd y26.fst.snd.fst 0 := by kernel_rfl
theorem match_Literal_c (n : Nat) (s0 : ByteArray) (b1 : Bool) (j2 : Int) (s3 : ByteArray) (s4 : ByteArray) (b5 : Bool) (j6 : Int) (s7 : ByteArray) (s8 : ByteArray) (b9 : Bool) (r10 : Rows) (s11 : ByteArray) (b12 : Bool) (j13 : Int) (s14 : ByteArray) (s15 : ByteArray) (s16 : ByteArray) (s17 : ByteArray) (b18 : Bool) (r19 : Rows) (b20 : Bool) (r21 : Rows) (y : ((Bool × Rows) × Bool × Unit) × Unit) (h : match_Literal_v n s0 b1 j2 s3 s4 b5 j6 s7 s8 b9 r10 s11 b12 j13 s14 s15 s16 s17 b18 r19 b20 r21 = some y) : Contract Try.prog 16 [AV.agg [AV.dv (DV.val (Value.string s0)), AV.dv (DV.val (Value.bool b1)), AV.dv (DV.val (Value.int IntKind.i64 j2)), AV.dv (DV.val (Value.string s3))], AV.agg [AV.dv (DV.val (Value.string s4)), AV.dv (DV.val (Value.bool b5)), AV.dv (DV.val (Value.int IntKind.i64 j6)), AV.dv (DV.val (Value.string s7)), AV.dv (DV.val (Value.string s8)), AV.sl b9 [Kd.s, Kd.b, Kd.i IntKind.i64, Kd.s] r10 Right.no, AV.dv (DV.val (Value.string s11)), AV.dv (DV.val (Value.bool b12)), AV.dv (DV.val (Value.int IntKind.i64 j13)), AV.dv (DV.val (Value.string s14))], AV.agg [AV.dv (DV.val (Value.string s15)), AV.dv (DV.val (Value.string s16)), AV.dv (DV.val (Value.string s17)), AV.sl b18 [Kd.b, Kd.i IntKind.i64, Kd.s] r19 Right.no], AV.sl b20 [Kd.s, Kd.b, Kd.i IntKind.i64, Kd.s] r21 Right.no] [] (OSh.enc (OSh.plain (.tup [.slt [Kd.s, Kd.b, Kd.i IntKind.i64, Kd.s] 0, .b]) []) y) :=
  auto_okM tm_std (with_ok mixed (by kernel_rfl) (match_Literal_σok n) n 0 []) (with_pick mixed (by kernel_rfl) (match_Literal_σok n) n 0 []) mixed Try.func16 (by decide) (o := (OSh.plain (.tup [.slt [Kd.s, Kd.b, Kd.i IntKind.i64, Kd.s] 0, .b]) [])) h
/-! ref11_Name: function 36 -/
def ref11_Name_lv : Live := []
noncomputable def ref11_Name_σ (n : Nat) : Spec := Spec.none
theorem ref11_Name_σok (n : Nat) : SpecOk Try.prog (ref11_Name_σ n) := (SpecOk.none _)
noncomputable def ref11_Name_Φ (n : Nat) : Orc := with_ Try.prog (ref11_Name_σ n) [] n 0 []
noncomputable def ref11_Name_v (n : Nat) (s0 : ByteArray) : Option ((Bool × Int × ByteArray × Unit) × Unit) :=
  DM.denFn tm (ref11_Name_Φ n) ref11_Name_lv n Try.f36 false [AV.dv (DV.val (Value.string s0))] [] (OSh.chk (OSh.plain (.agg [.b, .i IntKind.i64, .s]) []))
theorem ref11_Name_e (n : Nat) (s0 : ByteArray) : ref11_Name_v n s0 =
  some ((false, (0, (s0, ()))), ()) := by kernel_rfl
theorem ref11_Name_c (n : Nat) (s0 : ByteArray) (y : (Bool × Int × ByteArray × Unit) × Unit) (h : ref11_Name_v n s0 = some y) : Contract Try.prog 36 [AV.dv (DV.val (Value.string s0))] [] (OSh.enc (OSh.plain (.agg [.b, .i IntKind.i64, .s]) []) y) :=
  auto_okM tm_std (with_ok mixed (by kernel_rfl) (ref11_Name_σok n) n 0 []) (with_pick mixed (by kernel_rfl) (ref11_Name_σok n) n 0 []) mixed Try.func36 (by decide) (o := (OSh.plain (.agg [.b, .i IntKind.i64, .s]) [])) h
/-! ref11_Literal: function 17 -/
def ref11_Literal_lv : Live := [(16, [5, 6, 11, 13], [5, 6, 1000, 1001, 1002, 1003])]
noncomputable def ref11_Literal_σ (n : Nat) : Spec := (inst 30 [.agg [.s, .b, .i IntKind.i64, .s]] [] (OSh.plain (.b) []) (fun x e => ref11_none_v n x.1.1 x.1.2.1 x.1.2.2.1 x.1.2.2.2.1) (inst 36 [.s] [] (OSh.plain (.agg [.b, .i IntKind.i64, .s]) []) (fun x e => ref11_Name_v n x.1) (inst 13 [.agg [.s, .b, .i IntKind.i64, .s], .agg [.b, .i IntKind.i64, .s], .sl [Kd.s, Kd.b, Kd.i IntKind.i64, Kd.s]] [] (OSh.plain (.tup [.slt [Kd.s, Kd.b, Kd.i IntKind.i64, Kd.s] 0, .b]) []) (fun x e => ref11_Unify_v n x.1.1 x.1.2.1 x.1.2.2.1 x.1.2.2.2.1 x.2.1.1 x.2.1.2.1 x.2.1.2.2.1 x.2.2.1.1 x.2.2.1.2) Spec.none)))
theorem ref11_Literal_σok (n : Nat) : SpecOk Try.prog (ref11_Literal_σ n) := (inst_ok (fun x e y h => ref11_none_c n x.1.1 x.1.2.1 x.1.2.2.1 x.1.2.2.2.1 y h) (inst_ok (fun x e y h => ref11_Name_c n x.1 y h) (inst_ok (fun x e y h => ref11_Unify_c n x.1.1 x.1.2.1 x.1.2.2.1 x.1.2.2.2.1 x.2.1.1 x.2.1.2.1 x.2.1.2.2.1 x.2.2.1.1 x.2.2.1.2 y h) (SpecOk.none _))))
noncomputable def ref11_Literal_Φ (n : Nat) : Orc := with_ Try.prog (ref11_Literal_σ n) [] n 0 []
noncomputable def ref11_Literal_v (n : Nat) (s0 : ByteArray) (b1 : Bool) (j2 : Int) (s3 : ByteArray) (s4 : ByteArray) (b5 : Bool) (j6 : Int) (s7 : ByteArray) (s8 : ByteArray) (b9 : Bool) (r10 : Rows) (s11 : ByteArray) (b12 : Bool) (j13 : Int) (s14 : ByteArray) (s15 : ByteArray) (s16 : ByteArray) (s17 : ByteArray) (b18 : Bool) (r19 : Rows) (b20 : Bool) (r21 : Rows) : Option (((Bool × Rows) × Bool × Unit) × Unit) :=
  DM.denFn tm (ref11_Literal_Φ n) ref11_Literal_lv n Try.f17 true [AV.agg [AV.dv (DV.val (Value.string s0)), AV.dv (DV.val (Value.bool b1)), AV.dv (DV.val (Value.int IntKind.i64 j2)), AV.dv (DV.val (Value.string s3))], AV.agg [AV.dv (DV.val (Value.string s4)), AV.dv (DV.val (Value.bool b5)), AV.dv (DV.val (Value.int IntKind.i64 j6)), AV.dv (DV.val (Value.string s7)), AV.dv (DV.val (Value.string s8)), AV.sl b9 [Kd.s, Kd.b, Kd.i IntKind.i64, Kd.s] r10 Right.no, AV.dv (DV.val (Value.string s11)), AV.dv (DV.val (Value.bool b12)), AV.dv (DV.val (Value.int IntKind.i64 j13)), AV.dv (DV.val (Value.string s14))], AV.agg [AV.dv (DV.val (Value.string s15)), AV.dv (DV.val (Value.string s16)), AV.dv (DV.val (Value.string s17)), AV.sl b18 [Kd.b, Kd.i IntKind.i64, Kd.s] r19 Right.no], AV.sl b20 [Kd.s, Kd.b, Kd.i IntKind.i64, Kd.s] r21 Right.no] [] (OSh.chk (OSh.plain (.tup [.slt [Kd.s, Kd.b, Kd.i IntKind.i64, Kd.s] 0, .b]) []))
noncomputable def ref11_Literal_l16 (n : Nat) (s0 : ByteArray) (b1 : Bool) (j2 : Int) (s3 : ByteArray) (s4 : ByteArray) (b5 : Bool) (j6 : Int) (s7 : ByteArray) (s8 : ByteArray) (b9 : Bool) (r10 : Rows) (s11 : ByteArray) (b12 : Bool) (j13 : Int) (s14 : ByteArray) (s15 : ByteArray) (s16 : ByteArray) (s17 : ByteArray) (b18 : Bool) (r19 : Rows) (b20 : Bool) (r21 : Rows) (i0 : Nat) (b33 : Bool) (r34 : List (List DV)) (j36 : Int) : Option (((Bool × Rows) × Bool × Unit) × Unit) :=
  DM.loopFn tm (ref11_Literal_Φ n) ref11_Literal_lv n Try.f17 true [] (OSh.chk (OSh.plain (.tup [.slt [Kd.s, Kd.b, Kd.i IntKind.i64, Kd.s] 0, .b]) [])) 16 [] i0 (St.mk [AV.junk, AV.junk, AV.junk, AV.junk, AV.junk, AV.pl 5 0, AV.pl 6 0, AV.junk, AV.junk, AV.junk, AV.junk, AV.sl b33 [Kd.s, Kd.b, Kd.i IntKind.i64, Kd.s] r34 (Right.tok 11), AV.junk, AV.dv (DV.val (Value.int IntKind.i64 j36)), AV.junk, AV.junk, AV.junk, AV.junk, AV.junk, AV.junk, AV.junk, AV.junk, AV.junk, AV.junk, AV.junk, AV.junk, AV.junk, AV.junk, AV.junk, AV.junk, AV.junk, AV.junk, AV.junk, AV.junk, AV.junk, AV.junk, AV.junk, AV.junk, AV.junk, AV.junk, AV.junk, AV.junk, AV.junk, AV.junk, AV.junk, AV.junk, AV.junk, AV.junk, AV.junk, AV.junk, AV.junk, AV.junk, AV.junk, AV.junk, AV.junk, AV.junk, AV.junk, AV.junk, AV.junk, AV.junk, AV.junk, AV.junk, AV.junk, AV.junk, AV.junk, AV.junk, AV.junk, AV.junk, AV.junk, AV.junk, AV.junk, AV.junk, AV.junk, AV.junk, AV.junk, AV.junk, AV.junk, AV.junk, AV.junk, AV.junk, AV.junk, AV.junk, AV.junk, AV.junk, AV.junk, AV.junk, AV.junk, AV.junk, AV.junk] [(5, [AV.dv (DV.val (Value.string s4)), AV.dv (DV.val (Value.bool b5)), AV.dv (DV.val (Value.int IntKind.i64 j6)), AV.dv (DV.val (Value.string s7)), AV.dv (DV.val (Value.string s8)), AV.sl b9 [Kd.s, Kd.b, Kd.i IntKind.i64, Kd.s] r10 Right.no, AV.dv (DV.val (Value.string s11)), AV.dv (DV.val (Value.bool b12)), AV.dv (DV.val (Value.int IntKind.i64 j13)), AV.dv (DV.val (Value.string s14))]), (6, [AV.dv (DV.val (Value.string s15)), AV.dv (DV.val (Value.string s16)), AV.dv (DV.val (Value.string s17)), AV.sl b18 [Kd.b, Kd.i IntKind.i64, Kd.s] r19 Right.no])])
theorem ref11_Literal_s16 (n : Nat) (s0 : ByteArray) (b1 : Bool) (j2 : Int) (s3 : ByteArray) (s4 : ByteArray) (b5 : Bool) (j6 : Int) (s7 : ByteArray) (s8 : ByteArray) (b9 : Bool) (r10 : Rows) (s11 : ByteArray) (b12 : Bool) (j13 : Int) (s14 : ByteArray) (s15 : ByteArray) (s16 : ByteArray) (s17 : ByteArray) (b18 : Bool) (r19 : Rows) (b20 : Bool) (r21 : Rows) (i0 : Nat) (b33 : Bool) (r34 : List (List DV)) (j36 : Int) : ref11_Literal_l16 n s0 b1 j2 s3 s4 b5 j6 s7 s8 b9 r10 s11 b12 j13 s14 s15 s16 s17 b18 r19 b20 r21 (i0 + 1) b33 r34 j36 =
  bif decide (j36 < (↑(List.length r10) : Int)) then
    if 0 ≤ j36 then
      if j36 < (↑(List.length r10) : Int) then
        if 0 ≤ j36 then
          if j36 < (↑(List.length r19) : Int) then
            obind (ref11_Unify_v n (Row.S (List.getD r10 (Int.toNat j36) []) 0) (Row.B (List.getD r10 (Int.toNat j36) []) 1) (Row.I (List.getD r10 (Int.toNat j36) []) 2) (Row.S (List.getD r10 (Int.toNat j36) []) 3) (Row.B (List.getD r19 (Int.toNat j36) []) 0) (Row.I (List.getD r19 (Int.toNat j36) []) 1) (Row.S (List.getD r19 (Int.toNat j36) []) 2) b33 r34) fun y37 =>
            bif !y37.fst.snd.fst then
              some (((true, []), (false, ())), ())
            else ref11_Literal_l16 n s0 b1 j2 s3 s4 b5 j6 s7 s8 b9 r10 s11 b12 j13 s14 s15 s16 s17 b18 r19 b20 r21 i0 y37.fst.fst.fst y37.fst.fst.snd (IntKind.wrap IntKind.i64 (j36 + 1))
          else none
        else none
      else none
    else none
  else some (((b33, r34), (true, ())), ()) := by kernel_rfl
theorem ref11_Literal_e (n : Nat) (s0 : ByteArray) (b1 : Bool) (j2 : Int) (s3 : ByteArray) (s4 : ByteArray) (b5 : Bool) (j6 : Int) (s7 : ByteArray) (s8 : ByteArray) (b9 : Bool) (r10 : Rows) (s11 : ByteArray) (b12 : Bool) (j13 : Int) (s14 : ByteArray) (s15 : ByteArray) (s16 : ByteArray) (s17 : ByteArray) (b18 : Bool) (r19 : Rows) (b20 : Bool) (r21 : Rows) : ref11_Literal_v n s0 b1 j2 s3 s4 b5 j6 s7 s8 b9 r10 s11 b12 j13 s14 s15 s16 s17 b18 r19 b20 r21 =
  bif !s8 == s17 then
    some (((true, []), (false, ())), ())
  else bif (↑(List.length r10) : Int) != (↑(List.length r19) : Int) then
    some (((true, []), (false, ())), ())
  else obind (ref11_none_v n s11 b12 j13 s14) fun y22 =>
  bif y22.fst then
    obind (ref11_Name_v n s15) fun y23 =>
    obind (ref11_Unify_v n s0 b1 j2 s3 y23.fst.fst y23.fst.snd.fst y23.fst.snd.snd.fst b20 r21) fun y24 =>
    bif !y24.fst.snd.fst then
      some (((true, []), (false, ())), ())
    else obind (ref11_none_v n s4 b5 j6 s7) fun y25 =>
    bif y25.fst then
      bif !s16 == s15 then
        some (((true, []), (false, ())), ())
      else ref11_Literal_l16 n s0 b1 j2 s3 s4 b5 j6 s7 s8 b9 r10 s11 b12 j13 s14 s15 s16 s17 b18 r19 b20 r21 n y24.fst.fst.fst y24.fst.fst.snd 0
    else obind (ref11_Name_v n s16) fun y26 =>
    obind (ref11_Unify_v n s4 b5 j6 s7 y26.fst.fst y26.fst.snd.fst y26.fst.snd.snd.fst y24.fst.fst.fst y24.fst.fst.snd) fun y27 =>
    bif !y27.fst.snd.fst then
      some (((true, []), (false, ())), ())
    else ref11_Literal_l16 n s0 b1 j2 s3 s4 b5 j6 s7 s8 b9 r10 s11 b12 j13 s14 s15 s16 s17 b18 r19 b20 r21 n y27.fst.fst.fst y27.fst.fst.snd 0
  else obind (ref11_Name_v n s15) fun y28 =>
  obind (ref11_Unify_v n s11 b12 j13 s14 y28.fst.fst y28.fst.snd.fst y28.fst.snd.snd.fst b20 r21) fun y29 =>
  bif !y29.fst.snd.fst then
    some (((true, []), (false, ())), ())
  else obind (ref11_none_v n s4 b5 j6 s7) fun y30 =>
  bif y30.fst then
    bif !s16 == s15 then
      some (((true, []), (false, ())), ())
    else ref11_Literal_l16 n s0 b1 j2 s3 s4 b5 j6 s7 s8 b9 r10 s11 b12 j13 s14 s15 s16 s17 b18 r19 b20 r21 n y29.fst.fst.fst y29.fst.fst.snd 0
  else obind (ref11_Name_v n s16) fun y31 =>
  obind (ref11_Unify_v n s4 b5 j6 s7 y31.fst.fst y31.fst.snd.fst y31.fst.snd.snd.fst y29.fst.fst.fst y29.fst.fst.snd) fun y32 =>
  bif !y32.fst.snd.fst then
    some (((true, []), (false, ())), ())
  else ref11_Literal_l16 n s0 b1 j2 s3 s4 b5 j6 s7 s8 b9 r10 s11 b12 j13 s14 s15 s16 s17 b18 r19 b20 r21 n y32.fst.fst.fst y32.fst.fst.snd 0 := by kernel_rfl
theorem ref11_Literal_c (n : Nat) (s0 : ByteArray) (b1 : Bool) (j2 : Int) (s3 : ByteArray) (s4 : ByteArray) (b5 : Bool) (j6 : Int) (s7 : ByteArray) (s8 : ByteArray) (b9 : Bool) (r10 : Rows) (s11 : ByteArray) (b12 : Bool) (j13 : Int) (s14 : ByteArray) (s15 : ByteArray) (s16 : ByteArray) (s17 : ByteArray) (b18 : Bool) (r19 : Rows) (b20 : Bool) (r21 : Rows) (y : ((Bool × Rows) × Bool × Unit) × Unit) (h : ref11_Literal_v n s0 b1 j2 s3 s4 b5 j6 s7 s8 b9 r10 s11 b12 j13 s14 s15 s16 s17 b18 r19 b20 r21 = some y) : Contract Try.prog 17 [AV.agg [AV.dv (DV.val (Value.string s0)), AV.dv (DV.val (Value.bool b1)), AV.dv (DV.val (Value.int IntKind.i64 j2)), AV.dv (DV.val (Value.string s3))], AV.agg [AV.dv (DV.val (Value.string s4)), AV.dv (DV.val (Value.bool b5)), AV.dv (DV.val (Value.int IntKind.i64 j6)), AV.dv (DV.val (Value.string s7)), AV.dv (DV.val (Value.string s8)), AV.sl b9 [Kd.s, Kd.b, Kd.i IntKind.i64, Kd.s] r10 Right.no, AV.dv (DV.val (Value.string s11)), AV.dv (DV.val (Value.bool b12)), AV.dv (DV.val (Value.int IntKind.i64 j13)), AV.dv (DV.val (Value.string s14))], AV.agg [AV.dv (DV.val (Value.string s15)), AV.dv (DV.val (Value.string s16)), AV.dv (DV.val (Value.string s17)), AV.sl b18 [Kd.b, Kd.i IntKind.i64, Kd.s] r19 Right.no], AV.sl b20 [Kd.s, Kd.b, Kd.i IntKind.i64, Kd.s] r21 Right.no] [] (OSh.enc (OSh.plain (.tup [.slt [Kd.s, Kd.b, Kd.i IntKind.i64, Kd.s] 0, .b]) []) y) :=
  auto_okM tm_std (with_ok mixed (by kernel_rfl) (ref11_Literal_σok n) n 0 []) (with_pick mixed (by kernel_rfl) (ref11_Literal_σok n) n 0 []) mixed Try.func17 (by decide) (o := (OSh.plain (.tup [.slt [Kd.s, Kd.b, Kd.i IntKind.i64, Kd.s] 0, .b]) [])) h
/-! law11_MatchLiterals: function 4 -/
def law11_MatchLiterals_lv : Live := []
noncomputable def law11_MatchLiterals_σ (n : Nat) : Spec := (inst 15 [.agg [.s, .b, .i IntKind.i64, .s, .s, .sl [Kd.s, Kd.b, Kd.i IntKind.i64, Kd.s], .s, .b, .i IntKind.i64, .s, .sl [Kd.s, Kd.b, Kd.i IntKind.i64, Kd.s, Kd.s, Kd.sl [Kd.s, Kd.b, Kd.i IntKind.i64, Kd.s], Kd.s, Kd.b, Kd.i IntKind.i64, Kd.s]], .sl [Kd.s, Kd.s, Kd.s, Kd.sl [Kd.b, Kd.i IntKind.i64, Kd.s]], .sl [Kd.s, Kd.b, Kd.i IntKind.i64, Kd.s]] [] (OSh.plain (.b) []) (fun x e => law11_light_v n x.1.1 x.1.2.1 x.1.2.2.1 x.1.2.2.2.1 x.1.2.2.2.2.1 x.1.2.2.2.2.2.1.1 x.1.2.2.2.2.2.1.2 x.1.2.2.2.2.2.2.1 x.1.2.2.2.2.2.2.2.1 x.1.2.2.2.2.2.2.2.2.1 x.1.2.2.2.2.2.2.2.2.2.1 x.1.2.2.2.2.2.2.2.2.2.2.1.1 x.1.2.2.2.2.2.2.2.2.2.2.1.2 x.2.1.1 x.2.1.2 x.2.2.1.1 x.2.2.1.2) (inst 9 [] [] (OSh.plain (.b) []) (fun x e => law11_live_v n) (inst 16 [.agg [.s, .b, .i IntKind.i64, .s], .agg [.s, .b, .i IntKind.i64, .s, .s, .sl [Kd.s, Kd.b, Kd.i IntKind.i64, Kd.s], .s, .b, .i IntKind.i64, .s], .agg [.s, .s, .s, .sl [Kd.b, Kd.i IntKind.i64, Kd.s]], .sl [Kd.s, Kd.b, Kd.i IntKind.i64, Kd.s]] [] (OSh.plain (.tup [.slt [Kd.s, Kd.b, Kd.i IntKind.i64, Kd.s] 0, .b]) []) (fun x e => match_Literal_v n x.1.1 x.1.2.1 x.1.2.2.1 x.1.2.2.2.1 x.2.1.1 x.2.1.2.1 x.2.1.2.2.1 x.2.1.2.2.2.1 x.2.1.2.2.2.2.1 x.2.1.2.2.2.2.2.1.1 x.2.1.2.2.2.2.2.1.2 x.2.1.2.2.2.2.2.2.1 x.2.1.2.2.2.2.2.2.2.1 x.2.1.2.2.2.2.2.2.2.2.1 x.2.1.2.2.2.2.2.2.2.2.2.1 x.2.2.1.1 x.2.2.1.2.1 x.2.2.1.2.2.1 x.2.2.1.2.2.2.1.1 x.2.2.1.2.2.2.1.2 x.2.2.2.1.1 x.2.2.2.1.2) (inst 17 [.agg [.s, .b, .i IntKind.i64, .s], .agg [.s, .b, .i IntKind.i64, .s, .s, .sl [Kd.s, Kd.b, Kd.i IntKind.i64, Kd.s], .s, .b, .i IntKind.i64, .s], .agg [.s, .s, .s, .sl [Kd.b, Kd.i IntKind.i64, Kd.s]], .sl [Kd.s, Kd.b, Kd.i IntKind.i64, Kd.s]] [] (OSh.plain (.tup [.slt [Kd.s, Kd.b, Kd.i IntKind.i64, Kd.s] 0, .b]) []) (fun x e => ref11_Literal_v n x.1.1 x.1.2.1 x.1.2.2.1 x.1.2.2.2.1 x.2.1.1 x.2.1.2.1 x.2.1.2.2.1 x.2.1.2.2.2.1 x.2.1.2.2.2.2.1 x.2.1.2.2.2.2.2.1.1 x.2.1.2.2.2.2.2.1.2 x.2.1.2.2.2.2.2.2.1 x.2.1.2.2.2.2.2.2.2.1 x.2.1.2.2.2.2.2.2.2.2.1 x.2.1.2.2.2.2.2.2.2.2.2.1 x.2.2.1.1 x.2.2.1.2.1 x.2.2.1.2.2.1 x.2.2.1.2.2.2.1.1 x.2.2.1.2.2.2.1.2 x.2.2.2.1.1 x.2.2.2.1.2) (inst 14 [.sl [Kd.s, Kd.b, Kd.i IntKind.i64, Kd.s], .sl [Kd.s, Kd.b, Kd.i IntKind.i64, Kd.s]] [] (OSh.plain (.b) []) (fun x e => ref11_Like_v n x.1.1 x.1.2 x.2.1.1 x.2.1.2) Spec.none)))))
theorem law11_MatchLiterals_σok (n : Nat) : SpecOk Try.prog (law11_MatchLiterals_σ n) := (inst_ok (fun x e y h => law11_light_c n x.1.1 x.1.2.1 x.1.2.2.1 x.1.2.2.2.1 x.1.2.2.2.2.1 x.1.2.2.2.2.2.1.1 x.1.2.2.2.2.2.1.2 x.1.2.2.2.2.2.2.1 x.1.2.2.2.2.2.2.2.1 x.1.2.2.2.2.2.2.2.2.1 x.1.2.2.2.2.2.2.2.2.2.1 x.1.2.2.2.2.2.2.2.2.2.2.1.1 x.1.2.2.2.2.2.2.2.2.2.2.1.2 x.2.1.1 x.2.1.2 x.2.2.1.1 x.2.2.1.2 y h) (inst_ok (fun x e y h => law11_live_c n y h) (inst_ok (fun x e y h => match_Literal_c n x.1.1 x.1.2.1 x.1.2.2.1 x.1.2.2.2.1 x.2.1.1 x.2.1.2.1 x.2.1.2.2.1 x.2.1.2.2.2.1 x.2.1.2.2.2.2.1 x.2.1.2.2.2.2.2.1.1 x.2.1.2.2.2.2.2.1.2 x.2.1.2.2.2.2.2.2.1 x.2.1.2.2.2.2.2.2.2.1 x.2.1.2.2.2.2.2.2.2.2.1 x.2.1.2.2.2.2.2.2.2.2.2.1 x.2.2.1.1 x.2.2.1.2.1 x.2.2.1.2.2.1 x.2.2.1.2.2.2.1.1 x.2.2.1.2.2.2.1.2 x.2.2.2.1.1 x.2.2.2.1.2 y h) (inst_ok (fun x e y h => ref11_Literal_c n x.1.1 x.1.2.1 x.1.2.2.1 x.1.2.2.2.1 x.2.1.1 x.2.1.2.1 x.2.1.2.2.1 x.2.1.2.2.2.1 x.2.1.2.2.2.2.1 x.2.1.2.2.2.2.2.1.1 x.2.1.2.2.2.2.2.1.2 x.2.1.2.2.2.2.2.2.1 x.2.1.2.2.2.2.2.2.2.1 x.2.1.2.2.2.2.2.2.2.2.1 x.2.1.2.2.2.2.2.2.2.2.2.1 x.2.2.1.1 x.2.2.1.2.1 x.2.2.1.2.2.1 x.2.2.1.2.2.2.1.1 x.2.2.1.2.2.2.1.2 x.2.2.2.1.1 x.2.2.2.1.2 y h) (inst_ok (fun x e y h => ref11_Like_c n x.1.1 x.1.2 x.2.1.1 x.2.1.2 y h) (SpecOk.none _))))))
noncomputable def law11_MatchLiterals_Φ (n : Nat) : Orc := with_ Try.prog (law11_MatchLiterals_σ n) [] n 0 []
noncomputable def law11_MatchLiterals_v (n : Nat) (s0 : ByteArray) (b1 : Bool) (j2 : Int) (s3 : ByteArray) (s4 : ByteArray) (b5 : Bool) (r6 : Rows) (s7 : ByteArray) (b8 : Bool) (j9 : Int) (s10 : ByteArray) (b11 : Bool) (r12 : Rows) (s13 : ByteArray) (s14 : ByteArray) (s15 : ByteArray) (b16 : Bool) (r17 : Rows) (b18 : Bool) (r19 : Rows) : Option (Bool × Unit) :=
  DM.denFn tm (law11_MatchLiterals_Φ n) law11_MatchLiterals_lv n Try.f4 false [AV.agg [AV.dv (DV.val (Value.string s0)), AV.dv (DV.val (Value.bool b1)), AV.dv (DV.val (Value.int IntKind.i64 j2)), AV.dv (DV.val (Value.string s3)), AV.dv (DV.val (Value.string s4)), AV.sl b5 [Kd.s, Kd.b, Kd.i IntKind.i64, Kd.s] r6 Right.no, AV.dv (DV.val (Value.string s7)), AV.dv (DV.val (Value.bool b8)), AV.dv (DV.val (Value.int IntKind.i64 j9)), AV.dv (DV.val (Value.string s10)), AV.sl b11 [Kd.s, Kd.b, Kd.i IntKind.i64, Kd.s, Kd.s, Kd.sl [Kd.s, Kd.b, Kd.i IntKind.i64, Kd.s], Kd.s, Kd.b, Kd.i IntKind.i64, Kd.s] r12 Right.no], AV.agg [AV.dv (DV.val (Value.string s13)), AV.dv (DV.val (Value.string s14)), AV.dv (DV.val (Value.string s15)), AV.sl b16 [Kd.b, Kd.i IntKind.i64, Kd.s] r17 Right.no], AV.sl b18 [Kd.s, Kd.b, Kd.i IntKind.i64, Kd.s] r19 Right.no] [] (OSh.chk (OSh.plain (.b) []))
theorem law11_MatchLiterals_e (n : Nat) (s0 : ByteArray) (b1 : Bool) (j2 : Int) (s3 : ByteArray) (s4 : ByteArray) (b5 : Bool) (r6 : Rows) (s7 : ByteArray) (b8 : Bool) (j9 : Int) (s10 : ByteArray) (b11 : Bool) (r12 : Rows) (s13 : ByteArray) (s14 : ByteArray) (s15 : ByteArray) (b16 : Bool) (r17 : Rows) (b18 : Bool) (r19 : Rows) : law11_MatchLiterals_v n s0 b1 j2 s3 s4 b5 r6 s7 b8 j9 s10 b11 r12 s13 s14 s15 b16 r17 b18 r19 =
  obind (law11_light_v n s0 b1 j2 s3 s4 b5 r6 s7 b8 j9 s10 b11 r12 false ([[DV.val (Value.string s13), DV.val (Value.string s14), DV.val (Value.string s15), DV.sl b16 [Kd.b, Kd.i IntKind.i64, Kd.s] r17]]) b18 r19) fun y20 =>
  bif !y20.fst then
    obind (law11_live_v n) fun y21 =>
    some (y21.fst, ())
  else bif (↑(List.length r12) : Int) == 0 then
    obind (law11_live_v n) fun y22 =>
    some (y22.fst, ())
  else if 0 < (↑(List.length r12) : Int) then
    obind (match_Literal_v n s0 b1 j2 s3 (Row.S (List.getD r12 0 []) 0) (Row.B (List.getD r12 0 []) 1) (Row.I (List.getD r12 0 []) 2) (Row.S (List.getD r12 0 []) 3) (Row.S (List.getD r12 0 []) 4) (Row.N (List.getD r12 0 []) 5) (Row.R (List.getD r12 0 []) 5) (Row.S (List.getD r12 0 []) 6) (Row.B (List.getD r12 0 []) 7) (Row.I (List.getD r12 0 []) 8) (Row.S (List.getD r12 0 []) 9) s13 s14 s15 b16 r17 b18 r19) fun y23 =>
    if 0 < (↑(List.length r12) : Int) then
      obind (ref11_Literal_v n s0 b1 j2 s3 (Row.S (List.getD r12 0 []) 0) (Row.B (List.getD r12 0 []) 1) (Row.I (List.getD r12 0 []) 2) (Row.S (List.getD r12 0 []) 3) (Row.S (List.getD r12 0 []) 4) (Row.N (List.getD r12 0 []) 5) (Row.R (List.getD r12 0 []) 5) (Row.S (List.getD r12 0 []) 6) (Row.B (List.getD r12 0 []) 7) (Row.I (List.getD r12 0 []) 8) (Row.S (List.getD r12 0 []) 9) s13 s14 s15 b16 r17 b18 r19) fun y24 =>
      obind (ref11_Like_v n y23.fst.fst.fst y23.fst.fst.snd y24.fst.fst.fst y24.fst.fst.snd) fun y25 =>
      bif y25.fst then
        bif y23.fst.snd.fst == y24.fst.snd.fst then
          obind (law11_live_v n) fun y26 =>
          some (y26.fst, ())
        else some (false, ())
      else some (false, ())
    else none
  else none := by kernel_rfl
theorem law11_MatchLiterals_c (n : Nat) (s0 : ByteArray) (b1 : Bool) (j2 : Int) (s3 : ByteArray) (s4 : ByteArray) (b5 : Bool) (r6 : Rows) (s7 : ByteArray) (b8 : Bool) (j9 : Int) (s10 : ByteArray) (b11 : Bool) (r12 : Rows) (s13 : ByteArray) (s14 : ByteArray) (s15 : ByteArray) (b16 : Bool) (r17 : Rows) (b18 : Bool) (r19 : Rows) (y : Bool × Unit) (h : law11_MatchLiterals_v n s0 b1 j2 s3 s4 b5 r6 s7 b8 j9 s10 b11 r12 s13 s14 s15 b16 r17 b18 r19 = some y) : Contract Try.prog 4 [AV.agg [AV.dv (DV.val (Value.string s0)), AV.dv (DV.val (Value.bool b1)), AV.dv (DV.val (Value.int IntKind.i64 j2)), AV.dv (DV.val (Value.string s3)), AV.dv (DV.val (Value.string s4)), AV.sl b5 [Kd.s, Kd.b, Kd.i IntKind.i64, Kd.s] r6 Right.no, AV.dv (DV.val (Value.string s7)), AV.dv (DV.val (Value.bool b8)), AV.dv (DV.val (Value.int IntKind.i64 j9)), AV.dv (DV.val (Value.string s10)), AV.sl b11 [Kd.s, Kd.b, Kd.i IntKind.i64, Kd.s, Kd.s, Kd.sl [Kd.s, Kd.b, Kd.i IntKind.i64, Kd.s], Kd.s, Kd.b, Kd.i IntKind.i64, Kd.s] r12 Right.no], AV.agg [AV.dv (DV.val (Value.string s13)), AV.dv (DV.val (Value.string s14)), AV.dv (DV.val (Value.string s15)), AV.sl b16 [Kd.b, Kd.i IntKind.i64, Kd.s] r17 Right.no], AV.sl b18 [Kd.s, Kd.b, Kd.i IntKind.i64, Kd.s] r19 Right.no] [] (OSh.enc (OSh.plain (.b) []) y) :=
  auto_okM tm_std (with_ok mixed (by kernel_rfl) (law11_MatchLiterals_σok n) n 0 []) (with_pick mixed (by kernel_rfl) (law11_MatchLiterals_σok n) n 0 []) mixed Try.func4 (by decide) (o := (OSh.plain (.b) [])) h
/-! match_name: function 39 -/
def match_name_lv : Live := []
noncomputable def match_name_σ (n : Nat) : Spec := (inst 10 [.agg [.s, .b, .i IntKind.i64, .s], .sl [Kd.s, Kd.b, Kd.i IntKind.i64, Kd.s]] [] (OSh.plain (.tup [.agg [.b, .i IntKind.i64, .s], .b]) []) (fun x e => match_Value_v n x.1.1 x.1.2.1 x.1.2.2.1 x.1.2.2.2.1 x.2.1.1 x.2.1.2) (inst 35 [.s] [] (OSh.plain (.agg [.b, .i IntKind.i64, .s]) []) (fun x e => match_text_v n x.1) Spec.none))
theorem match_name_σok (n : Nat) : SpecOk Try.prog (match_name_σ n) := (inst_ok (fun x e y h => match_Value_c n x.1.1 x.1.2.1 x.1.2.2.1 x.1.2.2.2.1 x.2.1.1 x.2.1.2 y h) (inst_ok (fun x e y h => match_text_c n x.1 y h) (SpecOk.none _)))
noncomputable def match_name_Φ (n : Nat) : Orc := with_ Try.prog (match_name_σ n) [] n 0 []
noncomputable def match_name_v (n : Nat) (s0 : ByteArray) (b1 : Bool) (j2 : Int) (s3 : ByteArray) (b4 : Bool) (r5 : Rows) : Option ((ByteArray × Bool × Unit) × Unit) :=
  DM.denFn tm (match_name_Φ n) match_name_lv n Try.f39 false [AV.agg [AV.dv (DV.val (Value.string s0)), AV.dv (DV.val (Value.bool b1)), AV.dv (DV.val (Value.int IntKind.i64 j2)), AV.dv (DV.val (Value.string s3))], AV.sl b4 [Kd.s, Kd.b, Kd.i IntKind.i64, Kd.s] r5 Right.no] [] (OSh.chk (OSh.plain (.tup [.s, .b]) []))
theorem match_name_e (n : Nat) (s0 : ByteArray) (b1 : Bool) (j2 : Int) (s3 : ByteArray) (b4 : Bool) (r5 : Rows) : match_name_v n s0 b1 j2 s3 b4 r5 =
  obind (match_Value_v n s0 b1 j2 s3 b4 r5) fun y6 =>
  bif y6.fst.snd.fst then
    obind (match_text_v n y6.fst.fst.snd.snd.fst) fun y7 =>
    some ((y6.fst.fst.snd.snd.fst, (y6.fst.fst.fst == y7.fst.fst && (y6.fst.fst.snd.fst == y7.fst.snd.fst && (y6.fst.fst.snd.snd.fst == y7.fst.snd.snd.fst && true)), ())), ())
  else some ((y6.fst.fst.snd.snd.fst, (false, ())), ()) := by kernel_rfl
theorem match_name_c (n : Nat) (s0 : ByteArray) (b1 : Bool) (j2 : Int) (s3 : ByteArray) (b4 : Bool) (r5 : Rows) (y : (ByteArray × Bool × Unit) × Unit) (h : match_name_v n s0 b1 j2 s3 b4 r5 = some y) : Contract Try.prog 39 [AV.agg [AV.dv (DV.val (Value.string s0)), AV.dv (DV.val (Value.bool b1)), AV.dv (DV.val (Value.int IntKind.i64 j2)), AV.dv (DV.val (Value.string s3))], AV.sl b4 [Kd.s, Kd.b, Kd.i IntKind.i64, Kd.s] r5 Right.no] [] (OSh.enc (OSh.plain (.tup [.s, .b]) []) y) :=
  auto_okM tm_std (with_ok mixed (by kernel_rfl) (match_name_σok n) n 0 []) (with_pick mixed (by kernel_rfl) (match_name_σok n) n 0 []) mixed Try.func39 (by decide) (o := (OSh.plain (.tup [.s, .b]) [])) h
/-! match_values: function 40 -/
def match_values_lv : Live := [(3, [1, 6, 11, 12, 13], [1000, 1001, 1002, 1003])]
noncomputable def match_values_σ (n : Nat) : Spec := (inst 10 [.agg [.s, .b, .i IntKind.i64, .s], .sl [Kd.s, Kd.b, Kd.i IntKind.i64, Kd.s]] [] (OSh.plain (.tup [.agg [.b, .i IntKind.i64, .s], .b]) []) (fun x e => match_Value_v n x.1.1 x.1.2.1 x.1.2.2.1 x.1.2.2.2.1 x.2.1.1 x.2.1.2) Spec.none)
theorem match_values_σok (n : Nat) : SpecOk Try.prog (match_values_σ n) := (inst_ok (fun x e y h => match_Value_c n x.1.1 x.1.2.1 x.1.2.2.1 x.1.2.2.2.1 x.2.1.1 x.2.1.2 y h) (SpecOk.none _))
noncomputable def match_values_Φ (n : Nat) : Orc := with_ Try.prog (match_values_σ n) [] n 0 []
noncomputable def match_values_v (n : Nat) (b0 : Bool) (r1 : Rows) (b2 : Bool) (r3 : Rows) : Option (((Bool × Rows) × Bool × Unit) × Unit) :=
  DM.denFn tm (match_values_Φ n) match_values_lv n Try.f40 true [AV.sl b0 [Kd.s, Kd.b, Kd.i IntKind.i64, Kd.s] r1 Right.no, AV.sl b2 [Kd.s, Kd.b, Kd.i IntKind.i64, Kd.s] r3 Right.no] [] (OSh.chk (OSh.plain (.tup [.slt [Kd.b, Kd.i IntKind.i64, Kd.s] 0, .b]) []))
noncomputable def match_values_l3 (n : Nat) (b0 : Bool) (r1 : Rows) (b2 : Bool) (r3 : Rows) (i0 : Nat) (b5 : Bool) (r6 : List (List DV)) (j7 : Int) : Option (((Bool × Rows) × Bool × Unit) × Unit) :=
  DM.loopFn tm (match_values_Φ n) match_values_lv n Try.f40 true [] (OSh.chk (OSh.plain (.tup [.slt [Kd.b, Kd.i IntKind.i64, Kd.s] 0, .b]) [])) 3 [] i0 (St.mk [AV.junk, AV.sl b2 [Kd.s, Kd.b, Kd.i IntKind.i64, Kd.s] r3 Right.no, AV.junk, AV.junk, AV.junk, AV.junk, AV.sl b5 [Kd.b, Kd.i IntKind.i64, Kd.s] r6 (Right.tok 6), AV.junk, AV.junk, AV.junk, AV.junk, AV.sl b0 [Kd.s, Kd.b, Kd.i IntKind.i64, Kd.s] r1 Right.no, AV.dv (DV.val (Value.int IntKind.i64 (↑(List.length r1) : Int))), AV.dv (DV.val (Value.int IntKind.i64 j7)), AV.junk, AV.junk, AV.junk, AV.junk, AV.junk, AV.junk, AV.junk, AV.junk, AV.junk, AV.junk, AV.junk, AV.junk, AV.junk, AV.junk, AV.junk, AV.junk, AV.junk] [])
theorem match_values_s3 (n : Nat) (b0 : Bool) (r1 : Rows) (b2 : Bool) (r3 : Rows) (i0 : Nat) (b5 : Bool) (r6 : List (List DV)) (j7 : Int) : match_values_l3 n b0 r1 b2 r3 (i0 + 1) b5 r6 j7 =
  bif decide (j7 < (↑(List.length r1) : Int)) then
    if 0 ≤ j7 then
      if j7 < (↑(List.length r1) : Int) then
        obind (match_Value_v n (Row.S (List.getD r1 (Int.toNat j7) []) 0) (Row.B (List.getD r1 (Int.toNat j7) []) 1) (Row.I (List.getD r1 (Int.toNat j7) []) 2) (Row.S (List.getD r1 (Int.toNat j7) []) 3) b2 r3) fun y8 =>
        bif !y8.fst.snd.fst then
          some (((true, []), (false, ())), ())
        else if (List.length r6 + List.length [[DV.val (Value.bool y8.fst.fst.fst), DV.val (Value.int IntKind.i64 y8.fst.fst.snd.fst), DV.val (Value.string y8.fst.fst.snd.snd.fst)]]) * 32 ≤ 140737488355328 then
          match_values_l3 n b0 r1 b2 r3 i0 (b5 && List.isEmpty [[DV.val (Value.bool y8.fst.fst.fst), DV.val (Value.int IntKind.i64 y8.fst.fst.snd.fst), DV.val (Value.string y8.fst.fst.snd.snd.fst)]]) (appX r6 [[DV.val (Value.bool y8.fst.fst.fst), DV.val (Value.int IntKind.i64 y8.fst.fst.snd.fst), DV.val (Value.string y8.fst.fst.snd.snd.fst)]]) (IntKind.wrap IntKind.i64 (j7 + 1))
        else none
      else none
    else none
  else some (((b5, r6), (true, ())), ()) := by kernel_rfl
theorem match_values_e (n : Nat) (b0 : Bool) (r1 : Rows) (b2 : Bool) (r3 : Rows) : match_values_v n b0 r1 b2 r3 =
  match_values_l3 n b0 r1 b2 r3 n true [] 0 := by kernel_rfl
theorem match_values_c (n : Nat) (b0 : Bool) (r1 : Rows) (b2 : Bool) (r3 : Rows) (y : ((Bool × Rows) × Bool × Unit) × Unit) (h : match_values_v n b0 r1 b2 r3 = some y) : Contract Try.prog 40 [AV.sl b0 [Kd.s, Kd.b, Kd.i IntKind.i64, Kd.s] r1 Right.no, AV.sl b2 [Kd.s, Kd.b, Kd.i IntKind.i64, Kd.s] r3 Right.no] [] (OSh.enc (OSh.plain (.tup [.slt [Kd.b, Kd.i IntKind.i64, Kd.s] 0, .b]) []) y) :=
  auto_okM tm_std (with_ok mixed (by kernel_rfl) (match_values_σok n) n 0 []) (with_pick mixed (by kernel_rfl) (match_values_σok n) n 0 []) mixed Try.func40 (by decide) (o := (OSh.plain (.tup [.slt [Kd.b, Kd.i IntKind.i64, Kd.s] 0, .b]) [])) h
/-! match_Head: function 19 -/
def match_Head_lv : Live := []
noncomputable def match_Head_σ (n : Nat) : Spec := (inst 39 [.agg [.s, .b, .i IntKind.i64, .s], .sl [Kd.s, Kd.b, Kd.i IntKind.i64, Kd.s]] [] (OSh.plain (.tup [.s, .b]) []) (fun x e => match_name_v n x.1.1 x.1.2.1 x.1.2.2.1 x.1.2.2.2.1 x.2.1.1 x.2.1.2) (inst 34 [.agg [.s, .b, .i IntKind.i64, .s], .agg [.s, .b, .i IntKind.i64, .s]] [] (OSh.plain (.agg [.s, .b, .i IntKind.i64, .s]) []) (fun x e => match_or_v n x.1.1 x.1.2.1 x.1.2.2.1 x.1.2.2.2.1 x.2.1.1 x.2.1.2.1 x.2.1.2.2.1 x.2.1.2.2.2.1) (inst 40 [.sl [Kd.s, Kd.b, Kd.i IntKind.i64, Kd.s], .sl [Kd.s, Kd.b, Kd.i IntKind.i64, Kd.s]] [] (OSh.plain (.tup [.slt [Kd.b, Kd.i IntKind.i64, Kd.s] 0, .b]) []) (fun x e => match_values_v n x.1.1 x.1.2 x.2.1.1 x.2.1.2) Spec.none)))
theorem match_Head_σok (n : Nat) : SpecOk Try.prog (match_Head_σ n) := (inst_ok (fun x e y h => match_name_c n x.1.1 x.1.2.1 x.1.2.2.1 x.1.2.2.2.1 x.2.1.1 x.2.1.2 y h) (inst_ok (fun x e y h => match_or_c n x.1.1 x.1.2.1 x.1.2.2.1 x.1.2.2.2.1 x.2.1.1 x.2.1.2.1 x.2.1.2.2.1 x.2.1.2.2.2.1 y h) (inst_ok (fun x e y h => match_values_c n x.1.1 x.1.2 x.2.1.1 x.2.1.2 y h) (SpecOk.none _))))
noncomputable def match_Head_Φ (n : Nat) : Orc := with_ Try.prog (match_Head_σ n) [] n 0 []
noncomputable def match_Head_v (n : Nat) (s0 : ByteArray) (b1 : Bool) (j2 : Int) (s3 : ByteArray) (s4 : ByteArray) (b5 : Bool) (r6 : Rows) (s7 : ByteArray) (b8 : Bool) (j9 : Int) (s10 : ByteArray) (b11 : Bool) (r12 : Rows) (b13 : Bool) (r14 : Rows) : Option (((ByteArray × ByteArray × ByteArray × (Bool × Rows) × Unit) × Bool × Unit) × Unit) :=
  DM.denFn tm (match_Head_Φ n) match_Head_lv n Try.f19 false [AV.agg [AV.dv (DV.val (Value.string s0)), AV.dv (DV.val (Value.bool b1)), AV.dv (DV.val (Value.int IntKind.i64 j2)), AV.dv (DV.val (Value.string s3)), AV.dv (DV.val (Value.string s4)), AV.sl b5 [Kd.s, Kd.b, Kd.i IntKind.i64, Kd.s] r6 Right.no, AV.dv (DV.val (Value.string s7)), AV.dv (DV.val (Value.bool b8)), AV.dv (DV.val (Value.int IntKind.i64 j9)), AV.dv (DV.val (Value.string s10)), AV.sl b11 [Kd.s, Kd.b, Kd.i IntKind.i64, Kd.s, Kd.s, Kd.sl [Kd.s, Kd.b, Kd.i IntKind.i64, Kd.s], Kd.s, Kd.b, Kd.i IntKind.i64, Kd.s] r12 Right.no], AV.sl b13 [Kd.s, Kd.b, Kd.i IntKind.i64, Kd.s] r14 Right.no] [] (OSh.chk (OSh.plain (.tup [.agg [.s, .s, .s, .sl [Kd.b, Kd.i IntKind.i64, Kd.s]], .b]) []))
theorem match_Head_e (n : Nat) (s0 : ByteArray) (b1 : Bool) (j2 : Int) (s3 : ByteArray) (s4 : ByteArray) (b5 : Bool) (r6 : Rows) (s7 : ByteArray) (b8 : Bool) (j9 : Int) (s10 : ByteArray) (b11 : Bool) (r12 : Rows) (b13 : Bool) (r14 : Rows) : match_Head_v n s0 b1 j2 s3 s4 b5 r6 s7 b8 j9 s10 b11 r12 b13 r14 =
  obind (match_name_v n s0 b1 j2 s3 b13 r14) fun y15 =>
  obind (match_or_v n s7 b8 j9 s10 s0 b1 j2 s3) fun y16 =>
  obind (match_name_v n y16.fst.fst y16.fst.snd.fst y16.fst.snd.snd.fst y16.fst.snd.snd.snd.fst b13 r14) fun y17 =>
  obind (match_values_v n b5 r6 b13 r14) fun y18 =>
  bif !y15.fst.snd.fst then
    some (((ByteArray.mk #[], (ByteArray.mk #[], (ByteArray.mk #[], ((true, []), ())))), (false, ())), ())
  else bif !y17.fst.snd.fst then
    some (((ByteArray.mk #[], (ByteArray.mk #[], (ByteArray.mk #[], ((true, []), ())))), (false, ())), ())
  else bif !y18.fst.snd.fst then
    some (((ByteArray.mk #[], (ByteArray.mk #[], (ByteArray.mk #[], ((true, []), ())))), (false, ())), ())
  else some (((y17.fst.fst, (y15.fst.fst, (s4, ((y18.fst.fst.fst, y18.fst.fst.snd), ())))), (true, ())), ()) := by kernel_rfl
theorem match_Head_c (n : Nat) (s0 : ByteArray) (b1 : Bool) (j2 : Int) (s3 : ByteArray) (s4 : ByteArray) (b5 : Bool) (r6 : Rows) (s7 : ByteArray) (b8 : Bool) (j9 : Int) (s10 : ByteArray) (b11 : Bool) (r12 : Rows) (b13 : Bool) (r14 : Rows) (y : ((ByteArray × ByteArray × ByteArray × (Bool × Rows) × Unit) × Bool × Unit) × Unit) (h : match_Head_v n s0 b1 j2 s3 s4 b5 r6 s7 b8 j9 s10 b11 r12 b13 r14 = some y) : Contract Try.prog 19 [AV.agg [AV.dv (DV.val (Value.string s0)), AV.dv (DV.val (Value.bool b1)), AV.dv (DV.val (Value.int IntKind.i64 j2)), AV.dv (DV.val (Value.string s3)), AV.dv (DV.val (Value.string s4)), AV.sl b5 [Kd.s, Kd.b, Kd.i IntKind.i64, Kd.s] r6 Right.no, AV.dv (DV.val (Value.string s7)), AV.dv (DV.val (Value.bool b8)), AV.dv (DV.val (Value.int IntKind.i64 j9)), AV.dv (DV.val (Value.string s10)), AV.sl b11 [Kd.s, Kd.b, Kd.i IntKind.i64, Kd.s, Kd.s, Kd.sl [Kd.s, Kd.b, Kd.i IntKind.i64, Kd.s], Kd.s, Kd.b, Kd.i IntKind.i64, Kd.s] r12 Right.no], AV.sl b13 [Kd.s, Kd.b, Kd.i IntKind.i64, Kd.s] r14 Right.no] [] (OSh.enc (OSh.plain (.tup [.agg [.s, .s, .s, .sl [Kd.b, Kd.i IntKind.i64, Kd.s]], .b]) []) y) :=
  auto_okM tm_std (with_ok mixed (by kernel_rfl) (match_Head_σok n) n 0 []) (with_pick mixed (by kernel_rfl) (match_Head_σok n) n 0 []) mixed Try.func19 (by decide) (o := (OSh.plain (.tup [.agg [.s, .s, .s, .sl [Kd.b, Kd.i IntKind.i64, Kd.s]], .b]) [])) h
/-! ref11_name: function 41 -/
def ref11_name_lv : Live := []
noncomputable def ref11_name_σ (n : Nat) : Spec := (inst 11 [.agg [.s, .b, .i IntKind.i64, .s], .sl [Kd.s, Kd.b, Kd.i IntKind.i64, Kd.s]] [] (OSh.plain (.tup [.agg [.b, .i IntKind.i64, .s], .b]) []) (fun x e => ref11_Value_v n x.1.1 x.1.2.1 x.1.2.2.1 x.1.2.2.2.1 x.2.1.1 x.2.1.2) (inst 36 [.s] [] (OSh.plain (.agg [.b, .i IntKind.i64, .s]) []) (fun x e => ref11_Name_v n x.1) Spec.none))
theorem ref11_name_σok (n : Nat) : SpecOk Try.prog (ref11_name_σ n) := (inst_ok (fun x e y h => ref11_Value_c n x.1.1 x.1.2.1 x.1.2.2.1 x.1.2.2.2.1 x.2.1.1 x.2.1.2 y h) (inst_ok (fun x e y h => ref11_Name_c n x.1 y h) (SpecOk.none _)))
noncomputable def ref11_name_Φ (n : Nat) : Orc := with_ Try.prog (ref11_name_σ n) [] n 0 []
noncomputable def ref11_name_v (n : Nat) (s0 : ByteArray) (b1 : Bool) (j2 : Int) (s3 : ByteArray) (b4 : Bool) (r5 : Rows) : Option ((ByteArray × Bool × Unit) × Unit) :=
  DM.denFn tm (ref11_name_Φ n) ref11_name_lv n Try.f41 false [AV.agg [AV.dv (DV.val (Value.string s0)), AV.dv (DV.val (Value.bool b1)), AV.dv (DV.val (Value.int IntKind.i64 j2)), AV.dv (DV.val (Value.string s3))], AV.sl b4 [Kd.s, Kd.b, Kd.i IntKind.i64, Kd.s] r5 Right.no] [] (OSh.chk (OSh.plain (.tup [.s, .b]) []))
theorem ref11_name_e (n : Nat) (s0 : ByteArray) (b1 : Bool) (j2 : Int) (s3 : ByteArray) (b4 : Bool) (r5 : Rows) : ref11_name_v n s0 b1 j2 s3 b4 r5 =
  obind (ref11_Value_v n s0 b1 j2 s3 b4 r5) fun y6 =>
  bif !y6.fst.snd.fst then
    some ((ByteArray.mk #[], (false, ())), ())
  else obind (ref11_Name_v n y6.fst.fst.snd.snd.fst) fun y7 =>
  bif !(y6.fst.fst.fst == y7.fst.fst && (y6.fst.fst.snd.fst == y7.fst.snd.fst && (y6.fst.fst.snd.snd.fst == y7.fst.snd.snd.fst && true))) then
    some ((ByteArray.mk #[], (false, ())), ())
  else some ((y6.fst.fst.snd.snd.fst, (true, ())), ()) := by kernel_rfl
theorem ref11_name_c (n : Nat) (s0 : ByteArray) (b1 : Bool) (j2 : Int) (s3 : ByteArray) (b4 : Bool) (r5 : Rows) (y : (ByteArray × Bool × Unit) × Unit) (h : ref11_name_v n s0 b1 j2 s3 b4 r5 = some y) : Contract Try.prog 41 [AV.agg [AV.dv (DV.val (Value.string s0)), AV.dv (DV.val (Value.bool b1)), AV.dv (DV.val (Value.int IntKind.i64 j2)), AV.dv (DV.val (Value.string s3))], AV.sl b4 [Kd.s, Kd.b, Kd.i IntKind.i64, Kd.s] r5 Right.no] [] (OSh.enc (OSh.plain (.tup [.s, .b]) []) y) :=
  auto_okM tm_std (with_ok mixed (by kernel_rfl) (ref11_name_σok n) n 0 []) (with_pick mixed (by kernel_rfl) (ref11_name_σok n) n 0 []) mixed Try.func41 (by decide) (o := (OSh.plain (.tup [.s, .b]) [])) h
/-! ref11_values: function 42 -/
def ref11_values_lv : Live := [(3, [0, 1, 6, 7], [1000, 1001, 1002, 1003])]
noncomputable def ref11_values_σ (n : Nat) : Spec := (inst 11 [.agg [.s, .b, .i IntKind.i64, .s], .sl [Kd.s, Kd.b, Kd.i IntKind.i64, Kd.s]] [] (OSh.plain (.tup [.agg [.b, .i IntKind.i64, .s], .b]) []) (fun x e => ref11_Value_v n x.1.1 x.1.2.1 x.1.2.2.1 x.1.2.2.2.1 x.2.1.1 x.2.1.2) Spec.none)
theorem ref11_values_σok (n : Nat) : SpecOk Try.prog (ref11_values_σ n) := (inst_ok (fun x e y h => ref11_Value_c n x.1.1 x.1.2.1 x.1.2.2.1 x.1.2.2.2.1 x.2.1.1 x.2.1.2 y h) (SpecOk.none _))
noncomputable def ref11_values_Φ (n : Nat) : Orc := with_ Try.prog (ref11_values_σ n) [] n 0 []
noncomputable def ref11_values_v (n : Nat) (b0 : Bool) (r1 : Rows) (b2 : Bool) (r3 : Rows) : Option (((Bool × Rows) × Bool × Unit) × Unit) :=
  DM.denFn tm (ref11_values_Φ n) ref11_values_lv n Try.f42 true [AV.sl b0 [Kd.s, Kd.b, Kd.i IntKind.i64, Kd.s] r1 Right.no, AV.sl b2 [Kd.s, Kd.b, Kd.i IntKind.i64, Kd.s] r3 Right.no] [] (OSh.chk (OSh.plain (.tup [.slt [Kd.b, Kd.i IntKind.i64, Kd.s] 0, .b]) []))
noncomputable def ref11_values_l3 (n : Nat) (b0 : Bool) (r1 : Rows) (b2 : Bool) (r3 : Rows) (i0 : Nat) (b5 : Bool) (r6 : List (List DV)) (j7 : Int) : Option (((Bool × Rows) × Bool × Unit) × Unit) :=
  DM.loopFn tm (ref11_values_Φ n) ref11_values_lv n Try.f42 true [] (OSh.chk (OSh.plain (.tup [.slt [Kd.b, Kd.i IntKind.i64, Kd.s] 0, .b]) [])) 3 [] i0 (St.mk [AV.sl b0 [Kd.s, Kd.b, Kd.i IntKind.i64, Kd.s] r1 Right.no, AV.sl b2 [Kd.s, Kd.b, Kd.i IntKind.i64, Kd.s] r3 Right.no, AV.junk, AV.junk, AV.junk, AV.junk, AV.sl b5 [Kd.b, Kd.i IntKind.i64, Kd.s] r6 (Right.tok 6), AV.dv (DV.val (Value.int IntKind.i64 j7)), AV.junk, AV.junk, AV.junk, AV.junk, AV.junk, AV.junk, AV.junk, AV.junk, AV.junk, AV.junk, AV.junk, AV.junk, AV.junk, AV.junk, AV.junk, AV.junk, AV.junk, AV.junk, AV.junk, AV.junk, AV.junk, AV.junk, AV.junk, AV.junk] [])
theorem ref11_values_s3 (n : Nat) (b0 : Bool) (r1 : Rows) (b2 : Bool) (r3 : Rows) (i0 : Nat) (b5 : Bool) (r6 : List (List DV)) (j7 : Int) : ref11_values_l3 n b0 r1 b2 r3 (i0 + 1) b5 r6 j7 =
  bif decide (j7 < (↑(List.length r1) : Int)) then
    if 0 ≤ j7 then
      if j7 < (↑(List.length r1) : Int) then
        obind (ref11_Value_v n (Row.S (List.getD r1 (Int.toNat j7) []) 0) (Row.B (List.getD r1 (Int.toNat j7) []) 1) (Row.I (List.getD r1 (Int.toNat j7) []) 2) (Row.S (List.getD r1 (Int.toNat j7) []) 3) b2 r3) fun y8 =>
        bif !y8.fst.snd.fst then
          some (((true, []), (false, ())), ())
        else if (List.length r6 + List.length [[DV.val (Value.bool y8.fst.fst.fst), DV.val (Value.int IntKind.i64 y8.fst.fst.snd.fst), DV.val (Value.string y8.fst.fst.snd.snd.fst)]]) * 32 ≤ 140737488355328 then
          ref11_values_l3 n b0 r1 b2 r3 i0 (b5 && List.isEmpty [[DV.val (Value.bool y8.fst.fst.fst), DV.val (Value.int IntKind.i64 y8.fst.fst.snd.fst), DV.val (Value.string y8.fst.fst.snd.snd.fst)]]) (appX r6 [[DV.val (Value.bool y8.fst.fst.fst), DV.val (Value.int IntKind.i64 y8.fst.fst.snd.fst), DV.val (Value.string y8.fst.fst.snd.snd.fst)]]) (IntKind.wrap IntKind.i64 (j7 + 1))
        else none
      else none
    else none
  else some (((b5, r6), (true, ())), ()) := by kernel_rfl
theorem ref11_values_e (n : Nat) (b0 : Bool) (r1 : Rows) (b2 : Bool) (r3 : Rows) : ref11_values_v n b0 r1 b2 r3 =
  ref11_values_l3 n b0 r1 b2 r3 n true [] 0 := by kernel_rfl
theorem ref11_values_c (n : Nat) (b0 : Bool) (r1 : Rows) (b2 : Bool) (r3 : Rows) (y : ((Bool × Rows) × Bool × Unit) × Unit) (h : ref11_values_v n b0 r1 b2 r3 = some y) : Contract Try.prog 42 [AV.sl b0 [Kd.s, Kd.b, Kd.i IntKind.i64, Kd.s] r1 Right.no, AV.sl b2 [Kd.s, Kd.b, Kd.i IntKind.i64, Kd.s] r3 Right.no] [] (OSh.enc (OSh.plain (.tup [.slt [Kd.b, Kd.i IntKind.i64, Kd.s] 0, .b]) []) y) :=
  auto_okM tm_std (with_ok mixed (by kernel_rfl) (ref11_values_σok n) n 0 []) (with_pick mixed (by kernel_rfl) (ref11_values_σok n) n 0 []) mixed Try.func42 (by decide) (o := (OSh.plain (.tup [.slt [Kd.b, Kd.i IntKind.i64, Kd.s] 0, .b]) [])) h
/-! ref11_Head: function 20 -/
def ref11_Head_lv : Live := []
noncomputable def ref11_Head_σ (n : Nat) : Spec := (inst 30 [.agg [.s, .b, .i IntKind.i64, .s]] [] (OSh.plain (.b) []) (fun x e => ref11_none_v n x.1.1 x.1.2.1 x.1.2.2.1 x.1.2.2.2.1) (inst 41 [.agg [.s, .b, .i IntKind.i64, .s], .sl [Kd.s, Kd.b, Kd.i IntKind.i64, Kd.s]] [] (OSh.plain (.tup [.s, .b]) []) (fun x e => ref11_name_v n x.1.1 x.1.2.1 x.1.2.2.1 x.1.2.2.2.1 x.2.1.1 x.2.1.2) (inst 42 [.sl [Kd.s, Kd.b, Kd.i IntKind.i64, Kd.s], .sl [Kd.s, Kd.b, Kd.i IntKind.i64, Kd.s]] [] (OSh.plain (.tup [.slt [Kd.b, Kd.i IntKind.i64, Kd.s] 0, .b]) []) (fun x e => ref11_values_v n x.1.1 x.1.2 x.2.1.1 x.2.1.2) Spec.none)))
theorem ref11_Head_σok (n : Nat) : SpecOk Try.prog (ref11_Head_σ n) := (inst_ok (fun x e y h => ref11_none_c n x.1.1 x.1.2.1 x.1.2.2.1 x.1.2.2.2.1 y h) (inst_ok (fun x e y h => ref11_name_c n x.1.1 x.1.2.1 x.1.2.2.1 x.1.2.2.2.1 x.2.1.1 x.2.1.2 y h) (inst_ok (fun x e y h => ref11_values_c n x.1.1 x.1.2 x.2.1.1 x.2.1.2 y h) (SpecOk.none _))))
noncomputable def ref11_Head_Φ (n : Nat) : Orc := with_ Try.prog (ref11_Head_σ n) [] n 0 []
noncomputable def ref11_Head_v (n : Nat) (s0 : ByteArray) (b1 : Bool) (j2 : Int) (s3 : ByteArray) (s4 : ByteArray) (b5 : Bool) (r6 : Rows) (s7 : ByteArray) (b8 : Bool) (j9 : Int) (s10 : ByteArray) (b11 : Bool) (r12 : Rows) (b13 : Bool) (r14 : Rows) : Option (((ByteArray × ByteArray × ByteArray × (Bool × Rows) × Unit) × Bool × Unit) × Unit) :=
  DM.denFn tm (ref11_Head_Φ n) ref11_Head_lv n Try.f20 false [AV.agg [AV.dv (DV.val (Value.string s0)), AV.dv (DV.val (Value.bool b1)), AV.dv (DV.val (Value.int IntKind.i64 j2)), AV.dv (DV.val (Value.string s3)), AV.dv (DV.val (Value.string s4)), AV.sl b5 [Kd.s, Kd.b, Kd.i IntKind.i64, Kd.s] r6 Right.no, AV.dv (DV.val (Value.string s7)), AV.dv (DV.val (Value.bool b8)), AV.dv (DV.val (Value.int IntKind.i64 j9)), AV.dv (DV.val (Value.string s10)), AV.sl b11 [Kd.s, Kd.b, Kd.i IntKind.i64, Kd.s, Kd.s, Kd.sl [Kd.s, Kd.b, Kd.i IntKind.i64, Kd.s], Kd.s, Kd.b, Kd.i IntKind.i64, Kd.s] r12 Right.no], AV.sl b13 [Kd.s, Kd.b, Kd.i IntKind.i64, Kd.s] r14 Right.no] [] (OSh.chk (OSh.plain (.tup [.agg [.s, .s, .s, .sl [Kd.b, Kd.i IntKind.i64, Kd.s]], .b]) []))
theorem ref11_Head_e (n : Nat) (s0 : ByteArray) (b1 : Bool) (j2 : Int) (s3 : ByteArray) (s4 : ByteArray) (b5 : Bool) (r6 : Rows) (s7 : ByteArray) (b8 : Bool) (j9 : Int) (s10 : ByteArray) (b11 : Bool) (r12 : Rows) (b13 : Bool) (r14 : Rows) : ref11_Head_v n s0 b1 j2 s3 s4 b5 r6 s7 b8 j9 s10 b11 r12 b13 r14 =
  obind (ref11_none_v n s7 b8 j9 s10) fun y15 =>
  bif y15.fst then
    obind (ref11_name_v n s0 b1 j2 s3 b13 r14) fun y16 =>
    obind (ref11_name_v n s0 b1 j2 s3 b13 r14) fun y17 =>
    obind (ref11_values_v n b5 r6 b13 r14) fun y18 =>
    bif !y16.fst.snd.fst then
      some (((ByteArray.mk #[], (ByteArray.mk #[], (ByteArray.mk #[], ((true, []), ())))), (false, ())), ())
    else bif !y17.fst.snd.fst then
      some (((ByteArray.mk #[], (ByteArray.mk #[], (ByteArray.mk #[], ((true, []), ())))), (false, ())), ())
    else bif !y18.fst.snd.fst then
      some (((ByteArray.mk #[], (ByteArray.mk #[], (ByteArray.mk #[], ((true, []), ())))), (false, ())), ())
    else some (((y17.fst.fst, (y16.fst.fst, (s4, ((y18.fst.fst.fst, y18.fst.fst.snd), ())))), (true, ())), ())
  else obind (ref11_name_v n s0 b1 j2 s3 b13 r14) fun y19 =>
  obind (ref11_name_v n s7 b8 j9 s10 b13 r14) fun y20 =>
  obind (ref11_values_v n b5 r6 b13 r14) fun y21 =>
  bif !y19.fst.snd.fst then
    some (((ByteArray.mk #[], (ByteArray.mk #[], (ByteArray.mk #[], ((true, []), ())))), (false, ())), ())
  else bif !y20.fst.snd.fst then
    some (((ByteArray.mk #[], (ByteArray.mk #[], (ByteArray.mk #[], ((true, []), ())))), (false, ())), ())
  else bif !y21.fst.snd.fst then
    some (((ByteArray.mk #[], (ByteArray.mk #[], (ByteArray.mk #[], ((true, []), ())))), (false, ())), ())
  else some (((y20.fst.fst, (y19.fst.fst, (s4, ((y21.fst.fst.fst, y21.fst.fst.snd), ())))), (true, ())), ()) := by kernel_rfl
theorem ref11_Head_c (n : Nat) (s0 : ByteArray) (b1 : Bool) (j2 : Int) (s3 : ByteArray) (s4 : ByteArray) (b5 : Bool) (r6 : Rows) (s7 : ByteArray) (b8 : Bool) (j9 : Int) (s10 : ByteArray) (b11 : Bool) (r12 : Rows) (b13 : Bool) (r14 : Rows) (y : ((ByteArray × ByteArray × ByteArray × (Bool × Rows) × Unit) × Bool × Unit) × Unit) (h : ref11_Head_v n s0 b1 j2 s3 s4 b5 r6 s7 b8 j9 s10 b11 r12 b13 r14 = some y) : Contract Try.prog 20 [AV.agg [AV.dv (DV.val (Value.string s0)), AV.dv (DV.val (Value.bool b1)), AV.dv (DV.val (Value.int IntKind.i64 j2)), AV.dv (DV.val (Value.string s3)), AV.dv (DV.val (Value.string s4)), AV.sl b5 [Kd.s, Kd.b, Kd.i IntKind.i64, Kd.s] r6 Right.no, AV.dv (DV.val (Value.string s7)), AV.dv (DV.val (Value.bool b8)), AV.dv (DV.val (Value.int IntKind.i64 j9)), AV.dv (DV.val (Value.string s10)), AV.sl b11 [Kd.s, Kd.b, Kd.i IntKind.i64, Kd.s, Kd.s, Kd.sl [Kd.s, Kd.b, Kd.i IntKind.i64, Kd.s], Kd.s, Kd.b, Kd.i IntKind.i64, Kd.s] r12 Right.no], AV.sl b13 [Kd.s, Kd.b, Kd.i IntKind.i64, Kd.s] r14 Right.no] [] (OSh.enc (OSh.plain (.tup [.agg [.s, .s, .s, .sl [Kd.b, Kd.i IntKind.i64, Kd.s]], .b]) []) y) :=
  auto_okM tm_std (with_ok mixed (by kernel_rfl) (ref11_Head_σok n) n 0 []) (with_pick mixed (by kernel_rfl) (ref11_Head_σok n) n 0 []) mixed Try.func20 (by decide) (o := (OSh.plain (.tup [.agg [.s, .s, .s, .sl [Kd.b, Kd.i IntKind.i64, Kd.s]], .b]) [])) h
/-! match_Body: function 21 -/
def match_Body_lv : Live := [(3, [1, 2, 6, 17, 18, 19], [2, 1000, 1001, 1002, 1003])]
noncomputable def match_Body_σ (n : Nat) : Spec := (inst 34 [.agg [.s, .b, .i IntKind.i64, .s], .agg [.s, .b, .i IntKind.i64, .s]] [] (OSh.plain (.agg [.s, .b, .i IntKind.i64, .s]) []) (fun x e => match_or_v n x.1.1 x.1.2.1 x.1.2.2.1 x.1.2.2.2.1 x.2.1.1 x.2.1.2.1 x.2.1.2.2.1 x.2.1.2.2.2.1) (inst 39 [.agg [.s, .b, .i IntKind.i64, .s], .sl [Kd.s, Kd.b, Kd.i IntKind.i64, Kd.s]] [] (OSh.plain (.tup [.s, .b]) []) (fun x e => match_name_v n x.1.1 x.1.2.1 x.1.2.2.1 x.1.2.2.2.1 x.2.1.1 x.2.1.2) (inst 40 [.sl [Kd.s, Kd.b, Kd.i IntKind.i64, Kd.s], .sl [Kd.s, Kd.b, Kd.i IntKind.i64, Kd.s]] [] (OSh.plain (.tup [.slt [Kd.b, Kd.i IntKind.i64, Kd.s] 0, .b]) []) (fun x e => match_values_v n x.1.1 x.1.2 x.2.1.1 x.2.1.2) Spec.none)))
theorem match_Body_σok (n : Nat) : SpecOk Try.prog (match_Body_σ n) := (inst_ok (fun x e y h => match_or_c n x.1.1 x.1.2.1 x.1.2.2.1 x.1.2.2.2.1 x.2.1.1 x.2.1.2.1 x.2.1.2.2.1 x.2.1.2.2.2.1 y h) (inst_ok (fun x e y h => match_name_c n x.1.1 x.1.2.1 x.1.2.2.1 x.1.2.2.2.1 x.2.1.1 x.2.1.2 y h) (inst_ok (fun x e y h => match_values_c n x.1.1 x.1.2 x.2.1.1 x.2.1.2 y h) (SpecOk.none _))))
noncomputable def match_Body_Φ (n : Nat) : Orc := with_ Try.prog (match_Body_σ n) [] n 0 []
noncomputable def match_Body_v (n : Nat) (s0 : ByteArray) (b1 : Bool) (j2 : Int) (s3 : ByteArray) (s4 : ByteArray) (b5 : Bool) (r6 : Rows) (s7 : ByteArray) (b8 : Bool) (j9 : Int) (s10 : ByteArray) (b11 : Bool) (r12 : Rows) (b13 : Bool) (r14 : Rows) : Option (((Bool × Rows) × Bool × Unit) × Unit) :=
  DM.denFn tm (match_Body_Φ n) match_Body_lv n Try.f21 true [AV.agg [AV.dv (DV.val (Value.string s0)), AV.dv (DV.val (Value.bool b1)), AV.dv (DV.val (Value.int IntKind.i64 j2)), AV.dv (DV.val (Value.string s3)), AV.dv (DV.val (Value.string s4)), AV.sl b5 [Kd.s, Kd.b, Kd.i IntKind.i64, Kd.s] r6 Right.no, AV.dv (DV.val (Value.string s7)), AV.dv (DV.val (Value.bool b8)), AV.dv (DV.val (Value.int IntKind.i64 j9)), AV.dv (DV.val (Value.string s10)), AV.sl b11 [Kd.s, Kd.b, Kd.i IntKind.i64, Kd.s, Kd.s, Kd.sl [Kd.s, Kd.b, Kd.i IntKind.i64, Kd.s], Kd.s, Kd.b, Kd.i IntKind.i64, Kd.s] r12 Right.no], AV.sl b13 [Kd.s, Kd.b, Kd.i IntKind.i64, Kd.s] r14 Right.no] [] (OSh.chk (OSh.plain (.tup [.slt [Kd.s, Kd.s, Kd.s, Kd.sl [Kd.b, Kd.i IntKind.i64, Kd.s]] 0, .b]) []))
noncomputable def match_Body_l3 (n : Nat) (s0 : ByteArray) (b1 : Bool) (j2 : Int) (s3 : ByteArray) (s4 : ByteArray) (b5 : Bool) (r6 : Rows) (s7 : ByteArray) (b8 : Bool) (j9 : Int) (s10 : ByteArray) (b11 : Bool) (r12 : Rows) (b13 : Bool) (r14 : Rows) (i0 : Nat) (b20 : Bool) (r21 : List (List DV)) (j22 : Int) : Option (((Bool × Rows) × Bool × Unit) × Unit) :=
  DM.loopFn tm (match_Body_Φ n) match_Body_lv n Try.f21 true [] (OSh.chk (OSh.plain (.tup [.slt [Kd.s, Kd.s, Kd.s, Kd.sl [Kd.b, Kd.i IntKind.i64, Kd.s]] 0, .b]) [])) 3 [] i0 (St.mk [AV.junk, AV.sl b13 [Kd.s, Kd.b, Kd.i IntKind.i64, Kd.s] r14 Right.no, AV.pl 2 0, AV.junk, AV.junk, AV.junk, AV.sl b20 [Kd.s, Kd.s, Kd.s, Kd.sl [Kd.b, Kd.i IntKind.i64, Kd.s]] r21 (Right.tok 6), AV.junk, AV.junk, AV.junk, AV.junk, AV.junk, AV.junk, AV.junk, AV.junk, AV.junk, AV.junk, AV.sl b11 [Kd.s, Kd.b, Kd.i IntKind.i64, Kd.s, Kd.s, Kd.sl [Kd.s, Kd.b, Kd.i IntKind.i64, Kd.s], Kd.s, Kd.b, Kd.i IntKind.i64, Kd.s] r12 Right.no, AV.dv (DV.val (Value.int IntKind.i64 (↑(List.length r12) : Int))), AV.dv (DV.val (Value.int IntKind.i64 j22)), AV.junk, AV.junk, AV.junk, AV.junk, AV.junk, AV.junk, AV.junk, AV.junk, AV.junk, AV.junk, AV.junk, AV.junk, AV.junk, AV.junk, AV.junk, AV.junk, AV.junk, AV.junk, AV.junk, AV.junk, AV.junk, AV.junk, AV.junk, AV.junk, AV.junk, AV.junk, AV.junk, AV.junk, AV.junk, AV.junk, AV.junk, AV.junk, AV.junk, AV.junk, AV.junk, AV.junk, AV.junk, AV.junk, AV.junk, AV.junk, AV.junk, AV.junk, AV.junk, AV.junk, AV.junk, AV.junk, AV.junk, AV.junk, AV.junk, AV.junk, AV.junk] [(2, [AV.dv (DV.val (Value.string s0)), AV.dv (DV.val (Value.bool b1)), AV.dv (DV.val (Value.int IntKind.i64 j2)), AV.dv (DV.val (Value.string s3)), AV.dv (DV.val (Value.string s4)), AV.sl b5 [Kd.s, Kd.b, Kd.i IntKind.i64, Kd.s] r6 Right.no, AV.dv (DV.val (Value.string s7)), AV.dv (DV.val (Value.bool b8)), AV.dv (DV.val (Value.int IntKind.i64 j9)), AV.dv (DV.val (Value.string s10)), AV.sl b11 [Kd.s, Kd.b, Kd.i IntKind.i64, Kd.s, Kd.s, Kd.sl [Kd.s, Kd.b, Kd.i IntKind.i64, Kd.s], Kd.s, Kd.b, Kd.i IntKind.i64, Kd.s] r12 Right.no])])
theorem match_Body_s3 (n : Nat) (s0 : ByteArray) (b1 : Bool) (j2 : Int) (s3 : ByteArray) (s4 : ByteArray) (b5 : Bool) (r6 : Rows) (s7 : ByteArray) (b8 : Bool) (j9 : Int) (s10 : ByteArray) (b11 : Bool) (r12 : Rows) (b13 : Bool) (r14 : Rows) (i0 : Nat) (b20 : Bool) (r21 : List (List DV)) (j22 : Int) : match_Body_l3 n s0 b1 j2 s3 s4 b5 r6 s7 b8 j9 s10 b11 r12 b13 r14 (i0 + 1) b20 r21 j22 =
  bif decide (j22 < (↑(List.length r12) : Int)) then
    if 0 ≤ j22 then
      if j22 < (↑(List.length r12) : Int) then
        obind (match_or_v n (Row.S (List.getD r12 (Int.toNat j22) []) 6) (Row.B (List.getD r12 (Int.toNat j22) []) 7) (Row.I (List.getD r12 (Int.toNat j22) []) 8) (Row.S (List.getD r12 (Int.toNat j22) []) 9) s0 b1 j2 s3) fun y23 =>
        obind (match_name_v n y23.fst.fst y23.fst.snd.fst y23.fst.snd.snd.fst y23.fst.snd.snd.snd.fst b13 r14) fun y24 =>
        obind (match_or_v n (Row.S (List.getD r12 (Int.toNat j22) []) 0) (Row.B (List.getD r12 (Int.toNat j22) []) 1) (Row.I (List.getD r12 (Int.toNat j22) []) 2) (Row.S (List.getD r12 (Int.toNat j22) []) 3) y23.fst.fst y23.fst.snd.fst y23.fst.snd.snd.fst y23.fst.snd.snd.snd.fst) fun y25 =>
        obind (match_name_v n y25.fst.fst y25.fst.snd.fst y25.fst.snd.snd.fst y25.fst.snd.snd.snd.fst b13 r14) fun y26 =>
        obind (match_values_v n (Row.N (List.getD r12 (Int.toNat j22) []) 5) (Row.R (List.getD r12 (Int.toNat j22) []) 5) b13 r14) fun y27 =>
        bif !y24.fst.snd.fst then
          some (((true, []), (false, ())), ())
        else bif !y26.fst.snd.fst then
          some (((true, []), (false, ())), ())
        else bif !y27.fst.snd.fst then
          some (((true, []), (false, ())), ())
        else if (List.length r21 + List.length [[DV.val (Value.string y24.fst.fst), DV.val (Value.string y26.fst.fst), DV.val (Value.string (Row.S (List.getD r12 (Int.toNat j22) []) 4)), DV.sl y27.fst.fst.fst [Kd.b, Kd.i IntKind.i64, Kd.s] y27.fst.fst.snd]]) * 72 ≤ 140737488355328 then
          match_Body_l3 n s0 b1 j2 s3 s4 b5 r6 s7 b8 j9 s10 b11 r12 b13 r14 i0 (b20 && List.isEmpty [[DV.val (Value.string y24.fst.fst), DV.val (Value.string y26.fst.fst), DV.val (Value.string (Row.S (List.getD r12 (Int.toNat j22) []) 4)), DV.sl y27.fst.fst.fst [Kd.b, Kd.i IntKind.i64, Kd.s] y27.fst.fst.snd]]) (appX r21 [[DV.val (Value.string y24.fst.fst), DV.val (Value.string y26.fst.fst), DV.val (Value.string (Row.S (List.getD r12 (Int.toNat j22) []) 4)), DV.sl y27.fst.fst.fst [Kd.b, Kd.i IntKind.i64, Kd.s] y27.fst.fst.snd]]) (IntKind.wrap IntKind.i64 (j22 + 1))
        else none
      else none
    else none
  else some (((b20, r21), (true, ())), ()) := by kernel_rfl
theorem match_Body_e (n : Nat) (s0 : ByteArray) (b1 : Bool) (j2 : Int) (s3 : ByteArray) (s4 : ByteArray) (b5 : Bool) (r6 : Rows) (s7 : ByteArray) (b8 : Bool) (j9 : Int) (s10 : ByteArray) (b11 : Bool) (r12 : Rows) (b13 : Bool) (r14 : Rows) : match_Body_v n s0 b1 j2 s3 s4 b5 r6 s7 b8 j9 s10 b11 r12 b13 r14 =
  match_Body_l3 n s0 b1 j2 s3 s4 b5 r6 s7 b8 j9 s10 b11 r12 b13 r14 n true [] 0 := by kernel_rfl
theorem match_Body_c (n : Nat) (s0 : ByteArray) (b1 : Bool) (j2 : Int) (s3 : ByteArray) (s4 : ByteArray) (b5 : Bool) (r6 : Rows) (s7 : ByteArray) (b8 : Bool) (j9 : Int) (s10 : ByteArray) (b11 : Bool) (r12 : Rows) (b13 : Bool) (r14 : Rows) (y : ((Bool × Rows) × Bool × Unit) × Unit) (h : match_Body_v n s0 b1 j2 s3 s4 b5 r6 s7 b8 j9 s10 b11 r12 b13 r14 = some y) : Contract Try.prog 21 [AV.agg [AV.dv (DV.val (Value.string s0)), AV.dv (DV.val (Value.bool b1)), AV.dv (DV.val (Value.int IntKind.i64 j2)), AV.dv (DV.val (Value.string s3)), AV.dv (DV.val (Value.string s4)), AV.sl b5 [Kd.s, Kd.b, Kd.i IntKind.i64, Kd.s] r6 Right.no, AV.dv (DV.val (Value.string s7)), AV.dv (DV.val (Value.bool b8)), AV.dv (DV.val (Value.int IntKind.i64 j9)), AV.dv (DV.val (Value.string s10)), AV.sl b11 [Kd.s, Kd.b, Kd.i IntKind.i64, Kd.s, Kd.s, Kd.sl [Kd.s, Kd.b, Kd.i IntKind.i64, Kd.s], Kd.s, Kd.b, Kd.i IntKind.i64, Kd.s] r12 Right.no], AV.sl b13 [Kd.s, Kd.b, Kd.i IntKind.i64, Kd.s] r14 Right.no] [] (OSh.enc (OSh.plain (.tup [.slt [Kd.s, Kd.s, Kd.s, Kd.sl [Kd.b, Kd.i IntKind.i64, Kd.s]] 0, .b]) []) y) :=
  auto_okM tm_std (with_ok mixed (by kernel_rfl) (match_Body_σok n) n 0 []) (with_pick mixed (by kernel_rfl) (match_Body_σok n) n 0 []) mixed Try.func21 (by decide) (o := (OSh.plain (.tup [.slt [Kd.s, Kd.s, Kd.s, Kd.sl [Kd.b, Kd.i IntKind.i64, Kd.s]] 0, .b]) [])) h
/-! ref11_Body: function 22 -/
def ref11_Body_lv : Live := [(3, [1, 2, 6, 7], [2, 1000, 1001, 1002, 1003])]
noncomputable def ref11_Body_σ (n : Nat) : Spec := (inst 30 [.agg [.s, .b, .i IntKind.i64, .s]] [] (OSh.plain (.b) []) (fun x e => ref11_none_v n x.1.1 x.1.2.1 x.1.2.2.1 x.1.2.2.2.1) (inst 41 [.agg [.s, .b, .i IntKind.i64, .s], .sl [Kd.s, Kd.b, Kd.i IntKind.i64, Kd.s]] [] (OSh.plain (.tup [.s, .b]) []) (fun x e => ref11_name_v n x.1.1 x.1.2.1 x.1.2.2.1 x.1.2.2.2.1 x.2.1.1 x.2.1.2) (inst 42 [.sl [Kd.s, Kd.b, Kd.i IntKind.i64, Kd.s], .sl [Kd.s, Kd.b, Kd.i IntKind.i64, Kd.s]] [] (OSh.plain (.tup [.slt [Kd.b, Kd.i IntKind.i64, Kd.s] 0, .b]) []) (fun x e => ref11_values_v n x.1.1 x.1.2 x.2.1.1 x.2.1.2) Spec.none)))
theorem ref11_Body_σok (n : Nat) : SpecOk Try.prog (ref11_Body_σ n) := (inst_ok (fun x e y h => ref11_none_c n x.1.1 x.1.2.1 x.1.2.2.1 x.1.2.2.2.1 y h) (inst_ok (fun x e y h => ref11_name_c n x.1.1 x.1.2.1 x.1.2.2.1 x.1.2.2.2.1 x.2.1.1 x.2.1.2 y h) (inst_ok (fun x e y h => ref11_values_c n x.1.1 x.1.2 x.2.1.1 x.2.1.2 y h) (SpecOk.none _))))
noncomputable def ref11_Body_Φ (n : Nat) : Orc := with_ Try.prog (ref11_Body_σ n) [] n 0 []
noncomputable def ref11_Body_v (n : Nat) (s0 : ByteArray) (b1 : Bool) (j2 : Int) (s3 : ByteArray) (s4 : ByteArray) (b5 : Bool) (r6 : Rows) (s7 : ByteArray) (b8 : Bool) (j9 : Int) (s10 : ByteArray) (b11 : Bool) (r12 : Rows) (b13 : Bool) (r14 : Rows) : Option (((Bool × Rows) × Bool × Unit) × Unit) :=
  DM.denFn tm (ref11_Body_Φ n) ref11_Body_lv n Try.f22 true [AV.agg [AV.dv (DV.val (Value.string s0)), AV.dv (DV.val (Value.bool b1)), AV.dv (DV.val (Value.int IntKind.i64 j2)), AV.dv (DV.val (Value.string s3)), AV.dv (DV.val (Value.string s4)), AV.sl b5 [Kd.s, Kd.b, Kd.i IntKind.i64, Kd.s] r6 Right.no, AV.dv (DV.val (Value.string s7)), AV.dv (DV.val (Value.bool b8)), AV.dv (DV.val (Value.int IntKind.i64 j9)), AV.dv (DV.val (Value.string s10)), AV.sl b11 [Kd.s, Kd.b, Kd.i IntKind.i64, Kd.s, Kd.s, Kd.sl [Kd.s, Kd.b, Kd.i IntKind.i64, Kd.s], Kd.s, Kd.b, Kd.i IntKind.i64, Kd.s] r12 Right.no], AV.sl b13 [Kd.s, Kd.b, Kd.i IntKind.i64, Kd.s] r14 Right.no] [] (OSh.chk (OSh.plain (.tup [.slt [Kd.s, Kd.s, Kd.s, Kd.sl [Kd.b, Kd.i IntKind.i64, Kd.s]] 0, .b]) []))
noncomputable def ref11_Body_l3 (n : Nat) (s0 : ByteArray) (b1 : Bool) (j2 : Int) (s3 : ByteArray) (s4 : ByteArray) (b5 : Bool) (r6 : Rows) (s7 : ByteArray) (b8 : Bool) (j9 : Int) (s10 : ByteArray) (b11 : Bool) (r12 : Rows) (b13 : Bool) (r14 : Rows) (i0 : Nat) (b30 : Bool) (r31 : List (List DV)) (j32 : Int) : Option (((Bool × Rows) × Bool × Unit) × Unit) :=
  DM.loopFn tm (ref11_Body_Φ n) ref11_Body_lv n Try.f22 true [] (OSh.chk (OSh.plain (.tup [.slt [Kd.s, Kd.s, Kd.s, Kd.sl [Kd.b, Kd.i IntKind.i64, Kd.s]] 0, .b]) [])) 3 [] i0 (St.mk [AV.junk, AV.sl b13 [Kd.s, Kd.b, Kd.i IntKind.i64, Kd.s] r14 Right.no, AV.pl 2 0, AV.junk, AV.junk, AV.junk, AV.sl b30 [Kd.s, Kd.s, Kd.s, Kd.sl [Kd.b, Kd.i IntKind.i64, Kd.s]] r31 (Right.tok 6), AV.dv (DV.val (Value.int IntKind.i64 j32)), AV.junk, AV.junk, AV.junk, AV.junk, AV.junk, AV.junk, AV.junk, AV.junk, AV.junk, AV.junk, AV.junk, AV.junk, AV.junk, AV.junk, AV.junk, AV.junk, AV.junk, AV.junk, AV.junk, AV.junk, AV.junk, AV.junk, AV.junk, AV.junk, AV.junk, AV.junk, AV.junk, AV.junk, AV.junk, AV.junk, AV.junk, AV.junk, AV.junk, AV.junk, AV.junk, AV.junk, AV.junk, AV.junk, AV.junk, AV.junk, AV.junk, AV.junk, AV.junk, AV.junk, AV.junk, AV.junk, AV.junk, AV.junk, AV.junk, AV.junk, AV.junk, AV.junk, AV.junk, AV.junk, AV.junk, AV.junk, AV.junk, AV.junk, AV.junk, AV.junk, AV.junk, AV.junk, AV.junk, AV.junk, AV.junk, AV.junk, AV.junk, AV.junk, AV.junk, AV.junk, AV.junk] [(2, [AV.dv (DV.val (Value.string s0)), AV.dv (DV.val (Value.bool b1)), AV.dv (DV.val (Value.int IntKind.i64 j2)), AV.dv (DV.val (Value.string s3)), AV.dv (DV.val (Value.string s4)), AV.sl b5 [Kd.s, Kd.b, Kd.i IntKind.i64, Kd.s] r6 Right.no, AV.dv (DV.val (Value.string s7)), AV.dv (DV.val (Value.bool b8)), AV.dv (DV.val (Value.int IntKind.i64 j9)), AV.dv (DV.val (Value.string s10)), AV.sl b11 [Kd.s, Kd.b, Kd.i IntKind.i64, Kd.s, Kd.s, Kd.sl [Kd.s, Kd.b, Kd.i IntKind.i64, Kd.s], Kd.s, Kd.b, Kd.i IntKind.i64, Kd.s] r12 Right.no])])
theorem ref11_Body_s3 (n : Nat) (s0 : ByteArray) (b1 : Bool) (j2 : Int) (s3 : ByteArray) (s4 : ByteArray) (b5 : Bool) (r6 : Rows) (s7 : ByteArray) (b8 : Bool) (j9 : Int) (s10 : ByteArray) (b11 : Bool) (r12 : Rows) (b13 : Bool) (r14 : Rows) (i0 : Nat) (b30 : Bool) (r31 : List (List DV)) (j32 : Int) : ref11_Body_l3 n s0 b1 j2 s3 s4 b5 r6 s7 b8 j9 s10 b11 r12 b13 r14 (i0 + 1) b30 r31 j32 =
  bif decide (j32 < (↑(List.length r12) : Int)) then
    if 0 ≤ j32 then
      if j32 < (↑(List.length r12) : Int) then
        obind (ref11_none_v n (Row.S (List.getD r12 (Int.toNat j32) []) 6) (Row.B (List.getD r12 (Int.toNat j32) []) 7) (Row.I (List.getD r12 (Int.toNat j32) []) 8) (Row.S (List.getD r12 (Int.toNat j32) []) 9)) fun y33 =>
        bif y33.fst then
          obind (ref11_none_v n (Row.S (List.getD r12 (Int.toNat j32) []) 0) (Row.B (List.getD r12 (Int.toNat j32) []) 1) (Row.I (List.getD r12 (Int.toNat j32) []) 2) (Row.S (List.getD r12 (Int.toNat j32) []) 3)) fun y34 =>
          bif y34.fst then
            obind (ref11_name_v n s0 b1 j2 s3 b13 r14) fun y35 =>
            obind (ref11_name_v n s0 b1 j2 s3 b13 r14) fun y36 =>
            obind (ref11_values_v n (Row.N (List.getD r12 (Int.toNat j32) []) 5) (Row.R (List.getD r12 (Int.toNat j32) []) 5) b13 r14) fun y37 =>
            bif !y35.fst.snd.fst then
              some (((true, []), (false, ())), ())
            else bif !y36.fst.snd.fst then
              some (((true, []), (false, ())), ())
            else bif !y37.fst.snd.fst then
              some (((true, []), (false, ())), ())
            else if (List.length r31 + List.length [[DV.val (Value.string y35.fst.fst), DV.val (Value.string y36.fst.fst), DV.val (Value.string (Row.S (List.getD r12 (Int.toNat j32) []) 4)), DV.sl y37.fst.fst.fst [Kd.b, Kd.i IntKind.i64, Kd.s] y37.fst.fst.snd]]) * 72 ≤ 140737488355328 then
              ref11_Body_l3 n s0 b1 j2 s3 s4 b5 r6 s7 b8 j9 s10 b11 r12 b13 r14 i0 (b30 && List.isEmpty [[DV.val (Value.string y35.fst.fst), DV.val (Value.string y36.fst.fst), DV.val (Value.string (Row.S (List.getD r12 (Int.toNat j32) []) 4)), DV.sl y37.fst.fst.fst [Kd.b, Kd.i IntKind.i64, Kd.s] y37.fst.fst.snd]]) (appX r31 [[DV.val (Value.string y35.fst.fst), DV.val (Value.string y36.fst.fst), DV.val (Value.string (Row.S (List.getD r12 (Int.toNat j32) []) 4)), DV.sl y37.fst.fst.fst [Kd.b, Kd.i IntKind.i64, Kd.s] y37.fst.fst.snd]]) (IntKind.wrap IntKind.i64 (j32 + 1))
            else none
          else obind (ref11_name_v n s0 b1 j2 s3 b13 r14) fun y38 =>
          obind (ref11_name_v n (Row.S (List.getD r12 (Int.toNat j32) []) 0) (Row.B (List.getD r12 (Int.toNat j32) []) 1) (Row.I (List.getD r12 (Int.toNat j32) []) 2) (Row.S (List.getD r12 (Int.toNat j32) []) 3) b13 r14) fun y39 =>
          obind (ref11_values_v n (Row.N (List.getD r12 (Int.toNat j32) []) 5) (Row.R (List.getD r12 (Int.toNat j32) []) 5) b13 r14) fun y40 =>
          bif !y38.fst.snd.fst then
            some (((true, []), (false, ())), ())
          else bif !y39.fst.snd.fst then
            some (((true, []), (false, ())), ())
          else bif !y40.fst.snd.fst then
            some (((true, []), (false, ())), ())
          else if (List.length r31 + List.length [[DV.val (Value.string y38.fst.fst), DV.val (Value.string y39.fst.fst), DV.val (Value.string (Row.S (List.getD r12 (Int.toNat j32) []) 4)), DV.sl y40.fst.fst.fst [Kd.b, Kd.i IntKind.i64, Kd.s] y40.fst.fst.snd]]) * 72 ≤ 140737488355328 then
            ref11_Body_l3 n s0 b1 j2 s3 s4 b5 r6 s7 b8 j9 s10 b11 r12 b13 r14 i0 (b30 && List.isEmpty [[DV.val (Value.string y38.fst.fst), DV.val (Value.string y39.fst.fst), DV.val (Value.string (Row.S (List.getD r12 (Int.toNat j32) []) 4)), DV.sl y40.fst.fst.fst [Kd.b, Kd.i IntKind.i64, Kd.s] y40.fst.fst.snd]]) (appX r31 [[DV.val (Value.string y38.fst.fst), DV.val (Value.string y39.fst.fst), DV.val (Value.string (Row.S (List.getD r12 (Int.toNat j32) []) 4)), DV.sl y40.fst.fst.fst [Kd.b, Kd.i IntKind.i64, Kd.s] y40.fst.fst.snd]]) (IntKind.wrap IntKind.i64 (j32 + 1))
          else none
        else obind (ref11_none_v n (Row.S (List.getD r12 (Int.toNat j32) []) 0) (Row.B (List.getD r12 (Int.toNat j32) []) 1) (Row.I (List.getD r12 (Int.toNat j32) []) 2) (Row.S (List.getD r12 (Int.toNat j32) []) 3)) fun y41 =>
        bif y41.fst then
          obind (ref11_name_v n (Row.S (List.getD r12 (Int.toNat j32) []) 6) (Row.B (List.getD r12 (Int.toNat j32) []) 7) (Row.I (List.getD r12 (Int.toNat j32) []) 8) (Row.S (List.getD r12 (Int.toNat j32) []) 9) b13 r14) fun y42 =>
          obind (ref11_name_v n (Row.S (List.getD r12 (Int.toNat j32) []) 6) (Row.B (List.getD r12 (Int.toNat j32) []) 7) (Row.I (List.getD r12 (Int.toNat j32) []) 8) (Row.S (List.getD r12 (Int.toNat j32) []) 9) b13 r14) fun y43 =>
          obind (ref11_values_v n (Row.N (List.getD r12 (Int.toNat j32) []) 5) (Row.R (List.getD r12 (Int.toNat j32) []) 5) b13 r14) fun y44 =>
          bif !y42.fst.snd.fst then
            some (((true, []), (false, ())), ())
          else bif !y43.fst.snd.fst then
            some (((true, []), (false, ())), ())
          else bif !y44.fst.snd.fst then
            some (((true, []), (false, ())), ())
          else if (List.length r31 + List.length [[DV.val (Value.string y42.fst.fst), DV.val (Value.string y43.fst.fst), DV.val (Value.string (Row.S (List.getD r12 (Int.toNat j32) []) 4)), DV.sl y44.fst.fst.fst [Kd.b, Kd.i IntKind.i64, Kd.s] y44.fst.fst.snd]]) * 72 ≤ 140737488355328 then
            ref11_Body_l3 n s0 b1 j2 s3 s4 b5 r6 s7 b8 j9 s10 b11 r12 b13 r14 i0 (b30 && List.isEmpty [[DV.val (Value.string y42.fst.fst), DV.val (Value.string y43.fst.fst), DV.val (Value.string (Row.S (List.getD r12 (Int.toNat j32) []) 4)), DV.sl y44.fst.fst.fst [Kd.b, Kd.i IntKind.i64, Kd.s] y44.fst.fst.snd]]) (appX r31 [[DV.val (Value.string y42.fst.fst), DV.val (Value.string y43.fst.fst), DV.val (Value.string (Row.S (List.getD r12 (Int.toNat j32) []) 4)), DV.sl y44.fst.fst.fst [Kd.b, Kd.i IntKind.i64, Kd.s] y44.fst.fst.snd]]) (IntKind.wrap IntKind.i64 (j32 + 1))
          else none
        else obind (ref11_name_v n (Row.S (List.getD r12 (Int.toNat j32) []) 6) (Row.B (List.getD r12 (Int.toNat j32) []) 7) (Row.I (List.getD r12 (Int.toNat j32) []) 8) (Row.S (List.getD r12 (Int.toNat j32) []) 9) b13 r14) fun y45 =>
        obind (ref11_name_v n (Row.S (List.getD r12 (Int.toNat j32) []) 0) (Row.B (List.getD r12 (Int.toNat j32) []) 1) (Row.I (List.getD r12 (Int.toNat j32) []) 2) (Row.S (List.getD r12 (Int.toNat j32) []) 3) b13 r14) fun y46 =>
        obind (ref11_values_v n (Row.N (List.getD r12 (Int.toNat j32) []) 5) (Row.R (List.getD r12 (Int.toNat j32) []) 5) b13 r14) fun y47 =>
        bif !y45.fst.snd.fst then
          some (((true, []), (false, ())), ())
        else bif !y46.fst.snd.fst then
          some (((true, []), (false, ())), ())
        else bif !y47.fst.snd.fst then
          some (((true, []), (false, ())), ())
        else if (List.length r31 + List.length [[DV.val (Value.string y45.fst.fst), DV.val (Value.string y46.fst.fst), DV.val (Value.string (Row.S (List.getD r12 (Int.toNat j32) []) 4)), DV.sl y47.fst.fst.fst [Kd.b, Kd.i IntKind.i64, Kd.s] y47.fst.fst.snd]]) * 72 ≤ 140737488355328 then
          ref11_Body_l3 n s0 b1 j2 s3 s4 b5 r6 s7 b8 j9 s10 b11 r12 b13 r14 i0 (b30 && List.isEmpty [[DV.val (Value.string y45.fst.fst), DV.val (Value.string y46.fst.fst), DV.val (Value.string (Row.S (List.getD r12 (Int.toNat j32) []) 4)), DV.sl y47.fst.fst.fst [Kd.b, Kd.i IntKind.i64, Kd.s] y47.fst.fst.snd]]) (appX r31 [[DV.val (Value.string y45.fst.fst), DV.val (Value.string y46.fst.fst), DV.val (Value.string (Row.S (List.getD r12 (Int.toNat j32) []) 4)), DV.sl y47.fst.fst.fst [Kd.b, Kd.i IntKind.i64, Kd.s] y47.fst.fst.snd]]) (IntKind.wrap IntKind.i64 (j32 + 1))
        else none
      else none
    else none
  else some (((b30, r31), (true, ())), ()) := by kernel_rfl
theorem ref11_Body_e (n : Nat) (s0 : ByteArray) (b1 : Bool) (j2 : Int) (s3 : ByteArray) (s4 : ByteArray) (b5 : Bool) (r6 : Rows) (s7 : ByteArray) (b8 : Bool) (j9 : Int) (s10 : ByteArray) (b11 : Bool) (r12 : Rows) (b13 : Bool) (r14 : Rows) : ref11_Body_v n s0 b1 j2 s3 s4 b5 r6 s7 b8 j9 s10 b11 r12 b13 r14 =
  ref11_Body_l3 n s0 b1 j2 s3 s4 b5 r6 s7 b8 j9 s10 b11 r12 b13 r14 n true [] 0 := by kernel_rfl
theorem ref11_Body_c (n : Nat) (s0 : ByteArray) (b1 : Bool) (j2 : Int) (s3 : ByteArray) (s4 : ByteArray) (b5 : Bool) (r6 : Rows) (s7 : ByteArray) (b8 : Bool) (j9 : Int) (s10 : ByteArray) (b11 : Bool) (r12 : Rows) (b13 : Bool) (r14 : Rows) (y : ((Bool × Rows) × Bool × Unit) × Unit) (h : ref11_Body_v n s0 b1 j2 s3 s4 b5 r6 s7 b8 j9 s10 b11 r12 b13 r14 = some y) : Contract Try.prog 22 [AV.agg [AV.dv (DV.val (Value.string s0)), AV.dv (DV.val (Value.bool b1)), AV.dv (DV.val (Value.int IntKind.i64 j2)), AV.dv (DV.val (Value.string s3)), AV.dv (DV.val (Value.string s4)), AV.sl b5 [Kd.s, Kd.b, Kd.i IntKind.i64, Kd.s] r6 Right.no, AV.dv (DV.val (Value.string s7)), AV.dv (DV.val (Value.bool b8)), AV.dv (DV.val (Value.int IntKind.i64 j9)), AV.dv (DV.val (Value.string s10)), AV.sl b11 [Kd.s, Kd.b, Kd.i IntKind.i64, Kd.s, Kd.s, Kd.sl [Kd.s, Kd.b, Kd.i IntKind.i64, Kd.s], Kd.s, Kd.b, Kd.i IntKind.i64, Kd.s] r12 Right.no], AV.sl b13 [Kd.s, Kd.b, Kd.i IntKind.i64, Kd.s] r14 Right.no] [] (OSh.enc (OSh.plain (.tup [.slt [Kd.s, Kd.s, Kd.s, Kd.sl [Kd.b, Kd.i IntKind.i64, Kd.s]] 0, .b]) []) y) :=
  auto_okM tm_std (with_ok mixed (by kernel_rfl) (ref11_Body_σok n) n 0 []) (with_pick mixed (by kernel_rfl) (ref11_Body_σok n) n 0 []) mixed Try.func22 (by decide) (o := (OSh.plain (.tup [.slt [Kd.s, Kd.s, Kd.s, Kd.sl [Kd.b, Kd.i IntKind.i64, Kd.s]] 0, .b]) [])) h
/-! ref04_texts: function 37 -/
def ref04_texts_lv : Live := []
noncomputable def ref04_texts_σ (n : Nat) : Spec := Spec.none
theorem ref04_texts_σok (n : Nat) : SpecOk Try.prog (ref04_texts_σ n) := (SpecOk.none _)
noncomputable def ref04_texts_Φ (n : Nat) : Orc := with_ Try.prog (ref04_texts_σ n) [] n 0 []
noncomputable def ref04_texts_v (n : Nat) (s0 : ByteArray) (s1 : ByteArray) : Option (Int × Unit) :=
  DM.denFn tm (ref04_texts_Φ n) ref04_texts_lv n Try.f37 false [AV.dv (DV.val (Value.string s0)), AV.dv (DV.val (Value.string s1))] [] (OSh.chk (OSh.plain (.i IntKind.i64) []))
theorem ref04_texts_e (n : Nat) (s0 : ByteArray) (s1 : ByteArray) : ref04_texts_v n s0 s1 =
  bif Op.bytesLess (ByteArray.toList s0) (ByteArray.toList s1) then
    some (-1, ())
  else bif !(Op.bytesLess (ByteArray.toList s0) (ByteArray.toList s1) || s0 == s1) then
    some (1, ())
  else some (0, ()) := by kernel_rfl
theorem ref04_texts_c (n : Nat) (s0 : ByteArray) (s1 : ByteArray) (y : Int × Unit) (h : ref04_texts_v n s0 s1 = some y) : Contract Try.prog 37 [AV.dv (DV.val (Value.string s0)), AV.dv (DV.val (Value.string s1))] [] (OSh.enc (OSh.plain (.i IntKind.i64) []) y) :=
  auto_okM tm_std (with_ok mixed (by kernel_rfl) (ref04_texts_σok n) n 0 []) (with_pick mixed (by kernel_rfl) (ref04_texts_σok n) n 0 []) mixed Try.func37 (by decide) (o := (OSh.plain (.i IntKind.i64) [])) h
/-! ref04_Compare: function 38 -/
def ref04_Compare_lv : Live := []
noncomputable def ref04_Compare_σ (n : Nat) : Spec := (inst 37 [.s, .s] [] (OSh.plain (.i IntKind.i64) []) (fun x e => ref04_texts_v n x.1 x.2.1) Spec.none)
theorem ref04_Compare_σok (n : Nat) : SpecOk Try.prog (ref04_Compare_σ n) := (inst_ok (fun x e y h => ref04_texts_c n x.1 x.2.1 y h) (SpecOk.none _))
noncomputable def ref04_Compare_Φ (n : Nat) : Orc := with_ Try.prog (ref04_Compare_σ n) [] n 0 []
noncomputable def ref04_Compare_v (n : Nat) (b0 : Bool) (j1 : Int) (s2 : ByteArray) (b3 : Bool) (j4 : Int) (s5 : ByteArray) : Option (Int × Unit) :=
  DM.denFn tm (ref04_Compare_Φ n) ref04_Compare_lv n Try.f38 false [AV.agg [AV.dv (DV.val (Value.bool b0)), AV.dv (DV.val (Value.int IntKind.i64 j1)), AV.dv (DV.val (Value.string s2))], AV.agg [AV.dv (DV.val (Value.bool b3)), AV.dv (DV.val (Value.int IntKind.i64 j4)), AV.dv (DV.val (Value.string s5))]] [] (OSh.chk (OSh.plain (.i IntKind.i64) []))
theorem ref04_Compare_e (n : Nat) (b0 : Bool) (j1 : Int) (s2 : ByteArray) (b3 : Bool) (j4 : Int) (s5 : ByteArray) : ref04_Compare_v n b0 j1 s2 b3 j4 s5 =
  bif b0 then
    bif !b3 then
      some (-1, ())
    else bif b3 then
      bif !b0 then
        some (1, ())
      else bif decide (j1 < j4) then
        some (-1, ())
      else bif decide (j1 > j4) then
        some (1, ())
      else obind (ref04_texts_v n s2 s5) fun y6 =>
      some (y6.fst, ())
    else bif decide (j1 < j4) then
      some (-1, ())
    else bif decide (j1 > j4) then
      some (1, ())
    else obind (ref04_texts_v n s2 s5) fun y7 =>
    some (y7.fst, ())
  else bif b3 then
    bif !b0 then
      some (1, ())
    else bif decide (j1 < j4) then
      some (-1, ())
    else bif decide (j1 > j4) then
      some (1, ())
    else obind (ref04_texts_v n s2 s5) fun y8 =>
    some (y8.fst, ())
  else bif decide (j1 < j4) then
    some (-1, ())
  else bif decide (j1 > j4) then
    some (1, ())
  else obind (ref04_texts_v n s2 s5) fun y9 =>
  some (y9.fst, ()) := by kernel_rfl
theorem ref04_Compare_c (n : Nat) (b0 : Bool) (j1 : Int) (s2 : ByteArray) (b3 : Bool) (j4 : Int) (s5 : ByteArray) (y : Int × Unit) (h : ref04_Compare_v n b0 j1 s2 b3 j4 s5 = some y) : Contract Try.prog 38 [AV.agg [AV.dv (DV.val (Value.bool b0)), AV.dv (DV.val (Value.int IntKind.i64 j1)), AV.dv (DV.val (Value.string s2))], AV.agg [AV.dv (DV.val (Value.bool b3)), AV.dv (DV.val (Value.int IntKind.i64 j4)), AV.dv (DV.val (Value.string s5))]] [] (OSh.enc (OSh.plain (.i IntKind.i64) []) y) :=
  auto_okM tm_std (with_ok mixed (by kernel_rfl) (ref04_Compare_σok n) n 0 []) (with_pick mixed (by kernel_rfl) (ref04_Compare_σok n) n 0 []) mixed Try.func38 (by decide) (o := (OSh.plain (.i IntKind.i64) [])) h
/-! ref04_Order: function 18 -/
def ref04_Order_lv : Live := [(8, [2, 3, 5], [2, 3, 1000, 1001, 1002, 1003])]
noncomputable def ref04_Order_σ (n : Nat) : Spec := (inst 37 [.s, .s] [] (OSh.plain (.i IntKind.i64) []) (fun x e => ref04_texts_v n x.1 x.2.1) (inst 38 [.agg [.b, .i IntKind.i64, .s], .agg [.b, .i IntKind.i64, .s]] [] (OSh.plain (.i IntKind.i64) []) (fun x e => ref04_Compare_v n x.1.1 x.1.2.1 x.1.2.2.1 x.2.1.1 x.2.1.2.1 x.2.1.2.2.1) Spec.none))
theorem ref04_Order_σok (n : Nat) : SpecOk Try.prog (ref04_Order_σ n) := (inst_ok (fun x e y h => ref04_texts_c n x.1 x.2.1 y h) (inst_ok (fun x e y h => ref04_Compare_c n x.1.1 x.1.2.1 x.1.2.2.1 x.2.1.1 x.2.1.2.1 x.2.1.2.2.1 y h) (SpecOk.none _)))
noncomputable def ref04_Order_Φ (n : Nat) : Orc := with_ Try.prog (ref04_Order_σ n) [] n 0 []
noncomputable def ref04_Order_v (n : Nat) (s0 : ByteArray) (s1 : ByteArray) (s2 : ByteArray) (b3 : Bool) (r4 : Rows) (s5 : ByteArray) (s6 : ByteArray) (s7 : ByteArray) (b8 : Bool) (r9 : Rows) : Option (Int × Unit) :=
  DM.denFn tm (ref04_Order_Φ n) ref04_Order_lv n Try.f18 false [AV.agg [AV.dv (DV.val (Value.string s0)), AV.dv (DV.val (Value.string s1)), AV.dv (DV.val (Value.string s2)), AV.sl b3 [Kd.b, Kd.i IntKind.i64, Kd.s] r4 Right.no], AV.agg [AV.dv (DV.val (Value.string s5)), AV.dv (DV.val (Value.string s6)), AV.dv (DV.val (Value.string s7)), AV.sl b8 [Kd.b, Kd.i IntKind.i64, Kd.s] r9 Right.no]] [] (OSh.chk (OSh.plain (.i IntKind.i64) []))
noncomputable def ref04_Order_l8 (n : Nat) (s0 : ByteArray) (s1 : ByteArray) (s2 : ByteArray) (b3 : Bool) (r4 : Rows) (s5 : ByteArray) (s6 : ByteArray) (s7 : ByteArray) (b8 : Bool) (r9 : Rows) (i0 : Nat) (j14 : Int) : Option (Int × Unit) :=
  DM.loopFn tm (ref04_Order_Φ n) ref04_Order_lv n Try.f18 false [] (OSh.chk (OSh.plain (.i IntKind.i64) [])) 8 [] i0 (St.mk [AV.junk, AV.junk, AV.pl 2 0, AV.pl 3 0, AV.junk, AV.dv (DV.val (Value.int IntKind.i64 j14)), AV.junk, AV.junk, AV.junk, AV.junk, AV.junk, AV.junk, AV.junk, AV.junk, AV.junk, AV.junk, AV.junk, AV.junk, AV.junk, AV.junk, AV.junk, AV.junk, AV.junk, AV.junk, AV.junk, AV.junk, AV.junk, AV.junk, AV.junk, AV.junk, AV.junk, AV.junk, AV.junk, AV.junk, AV.junk, AV.junk, AV.junk, AV.junk, AV.junk, AV.junk, AV.junk, AV.junk, AV.junk, AV.junk, AV.junk, AV.junk, AV.junk, AV.junk, AV.junk, AV.junk, AV.junk, AV.junk, AV.junk, AV.junk, AV.junk, AV.junk, AV.junk, AV.junk, AV.junk, AV.junk, AV.junk, AV.junk, AV.junk, AV.junk, AV.junk, AV.junk, AV.junk, AV.junk, AV.junk, AV.junk, AV.junk, AV.junk, AV.junk, AV.junk, AV.junk, AV.junk, AV.junk, AV.junk, AV.junk] [(2, [AV.dv (DV.val (Value.string s0)), AV.dv (DV.val (Value.string s1)), AV.dv (DV.val (Value.string s2)), AV.sl b3 [Kd.b, Kd.i IntKind.i64, Kd.s] r4 Right.no]), (3, [AV.dv (DV.val (Value.string s5)), AV.dv (DV.val (Value.string s6)), AV.dv (DV.val (Value.string s7)), AV.sl b8 [Kd.b, Kd.i IntKind.i64, Kd.s] r9 Right.no])])
theorem ref04_Order_s8 (n : Nat) (s0 : ByteArray) (s1 : ByteArray) (s2 : ByteArray) (b3 : Bool) (r4 : Rows) (s5 : ByteArray) (s6 : ByteArray) (s7 : ByteArray) (b8 : Bool) (r9 : Rows) (i0 : Nat) (j14 : Int) : ref04_Order_l8 n s0 s1 s2 b3 r4 s5 s6 s7 b8 r9 (i0 + 1) j14 =
  bif decide (j14 < (↑(List.length r4) : Int)) then
    bif decide (j14 < (↑(List.length r9) : Int)) then
      if 0 ≤ j14 then
        if j14 < (↑(List.length r4) : Int) then
          if 0 ≤ j14 then
            if j14 < (↑(List.length r9) : Int) then
              obind (ref04_Compare_v n (Row.B (List.getD r4 (Int.toNat j14) []) 0) (Row.I (List.getD r4 (Int.toNat j14) []) 1) (Row.S (List.getD r4 (Int.toNat j14) []) 2) (Row.B (List.getD r9 (Int.toNat j14) []) 0) (Row.I (List.getD r9 (Int.toNat j14) []) 1) (Row.S (List.getD r9 (Int.toNat j14) []) 2)) fun y15 =>
              bif y15.fst != 0 then
                some (y15.fst, ())
              else ref04_Order_l8 n s0 s1 s2 b3 r4 s5 s6 s7 b8 r9 i0 (IntKind.wrap IntKind.i64 (j14 + 1))
            else none
          else none
        else none
      else none
    else bif decide ((↑(List.length r4) : Int) < (↑(List.length r9) : Int)) then
      some (-1, ())
    else bif decide ((↑(List.length r4) : Int) > (↑(List.length r9) : Int)) then
      some (1, ())
    else some (0, ())
  else bif decide ((↑(List.length r4) : Int) < (↑(List.length r9) : Int)) then
    some (-1, ())
  else bif decide ((↑(List.length r4) : Int) > (↑(List.length r9) : Int)) then
    some (1, ())
  else some (0, ()) := by kernel_rfl
theorem ref04_Order_e (n : Nat) (s0 : ByteArray) (s1 : ByteArray) (s2 : ByteArray) (b3 : Bool) (r4 : Rows) (s5 : ByteArray) (s6 : ByteArray) (s7 : ByteArray) (b8 : Bool) (r9 : Rows) : ref04_Order_v n s0 s1 s2 b3 r4 s5 s6 s7 b8 r9 =
  bif !s0 == s5 then
    obind (ref04_texts_v n s0 s5) fun y10 =>
    some (y10.fst, ())
  else bif !s1 == s6 then
    obind (ref04_texts_v n s1 s6) fun y11 =>
    some (y11.fst, ())
  else bif !s2 == s7 then
    obind (ref04_texts_v n s2 s7) fun y12 =>
    some (y12.fst, ())
  else ref04_Order_l8 n s0 s1 s2 b3 r4 s5 s6 s7 b8 r9 n 0 := by kernel_rfl
theorem ref04_Order_c (n : Nat) (s0 : ByteArray) (s1 : ByteArray) (s2 : ByteArray) (b3 : Bool) (r4 : Rows) (s5 : ByteArray) (s6 : ByteArray) (s7 : ByteArray) (b8 : Bool) (r9 : Rows) (y : Int × Unit) (h : ref04_Order_v n s0 s1 s2 b3 r4 s5 s6 s7 b8 r9 = some y) : Contract Try.prog 18 [AV.agg [AV.dv (DV.val (Value.string s0)), AV.dv (DV.val (Value.string s1)), AV.dv (DV.val (Value.string s2)), AV.sl b3 [Kd.b, Kd.i IntKind.i64, Kd.s] r4 Right.no], AV.agg [AV.dv (DV.val (Value.string s5)), AV.dv (DV.val (Value.string s6)), AV.dv (DV.val (Value.string s7)), AV.sl b8 [Kd.b, Kd.i IntKind.i64, Kd.s] r9 Right.no]] [] (OSh.enc (OSh.plain (.i IntKind.i64) []) y) :=
  auto_okM tm_std (with_ok mixed (by kernel_rfl) (ref04_Order_σok n) n 0 []) (with_pick mixed (by kernel_rfl) (ref04_Order_σok n) n 0 []) mixed Try.func18 (by decide) (o := (OSh.plain (.i IntKind.i64) [])) h
/-! ref04_Like: function 23 -/
def ref04_Like_lv : Live := [(4, [0, 1, 5], [1000, 1001, 1002, 1003])]
noncomputable def ref04_Like_σ (n : Nat) : Spec := (inst 18 [.agg [.s, .s, .s, .sl [Kd.b, Kd.i IntKind.i64, Kd.s]], .agg [.s, .s, .s, .sl [Kd.b, Kd.i IntKind.i64, Kd.s]]] [] (OSh.plain (.i IntKind.i64) []) (fun x e => ref04_Order_v n x.1.1 x.1.2.1 x.1.2.2.1 x.1.2.2.2.1.1 x.1.2.2.2.1.2 x.2.1.1 x.2.1.2.1 x.2.1.2.2.1 x.2.1.2.2.2.1.1 x.2.1.2.2.2.1.2) Spec.none)
theorem ref04_Like_σok (n : Nat) : SpecOk Try.prog (ref04_Like_σ n) := (inst_ok (fun x e y h => ref04_Order_c n x.1.1 x.1.2.1 x.1.2.2.1 x.1.2.2.2.1.1 x.1.2.2.2.1.2 x.2.1.1 x.2.1.2.1 x.2.1.2.2.1 x.2.1.2.2.2.1.1 x.2.1.2.2.2.1.2 y h) (SpecOk.none _))
noncomputable def ref04_Like_Φ (n : Nat) : Orc := with_ Try.prog (ref04_Like_σ n) [] n 0 []
noncomputable def ref04_Like_v (n : Nat) (b0 : Bool) (r1 : Rows) (b2 : Bool) (r3 : Rows) : Option (Bool × Unit) :=
  DM.denFn tm (ref04_Like_Φ n) ref04_Like_lv n Try.f23 false [AV.sl b0 [Kd.s, Kd.s, Kd.s, Kd.sl [Kd.b, Kd.i IntKind.i64, Kd.s]] r1 Right.no, AV.sl b2 [Kd.s, Kd.s, Kd.s, Kd.sl [Kd.b, Kd.i IntKind.i64, Kd.s]] r3 Right.no] [] (OSh.chk (OSh.plain (.b) []))
noncomputable def ref04_Like_l4 (n : Nat) (b0 : Bool) (r1 : Rows) (b2 : Bool) (r3 : Rows) (i0 : Nat) (j5 : Int) : Option (Bool × Unit) :=
  DM.loopFn tm (ref04_Like_Φ n) ref04_Like_lv n Try.f23 false [] (OSh.chk (OSh.plain (.b) [])) 4 [] i0 (St.mk [AV.sl b0 [Kd.s, Kd.s, Kd.s, Kd.sl [Kd.b, Kd.i IntKind.i64, Kd.s]] r1 Right.no, AV.sl b2 [Kd.s, Kd.s, Kd.s, Kd.sl [Kd.b, Kd.i IntKind.i64, Kd.s]] r3 Right.no, AV.junk, AV.junk, AV.junk, AV.dv (DV.val (Value.int IntKind.i64 j5)), AV.junk, AV.junk, AV.junk, AV.junk, AV.junk, AV.junk, AV.junk, AV.junk, AV.junk, AV.junk, AV.junk, AV.junk, AV.junk, AV.junk, AV.junk, AV.junk, AV.junk, AV.junk, AV.junk, AV.junk, AV.junk] [])
theorem ref04_Like_s4 (n : Nat) (b0 : Bool) (r1 : Rows) (b2 : Bool) (r3 : Rows) (i0 : Nat) (j5 : Int) : ref04_Like_l4 n b0 r1 b2 r3 (i0 + 1) j5 =
  bif decide (j5 < (↑(List.length r1) : Int)) then
    if 0 ≤ j5 then
      if j5 < (↑(List.length r1) : Int) then
        if 0 ≤ j5 then
          if j5 < (↑(List.length r3) : Int) then
            obind (ref04_Order_v n (Row.S (List.getD r1 (Int.toNat j5) []) 0) (Row.S (List.getD r1 (Int.toNat j5) []) 1) (Row.S (List.getD r1 (Int.toNat j5) []) 2) (Row.N (List.getD r1 (Int.toNat j5) []) 3) (Row.R (List.getD r1 (Int.toNat j5) []) 3) (Row.S (List.getD r3 (Int.toNat j5) []) 0) (Row.S (List.getD r3 (Int.toNat j5) []) 1) (Row.S (List.getD r3 (Int.toNat j5) []) 2) (Row.N (List.getD r3 (Int.toNat j5) []) 3) (Row.R (List.getD r3 (Int.toNat j5) []) 3)) fun y6 =>
            bif y6.fst != 0 then
              some (false, ())
            else ref04_Like_l4 n b0 r1 b2 r3 i0 (IntKind.wrap IntKind.i64 (j5 + 1))
          else none
        else none
      else none
    else none
  else some (true, ()) := by kernel_rfl
theorem ref04_Like_e (n : Nat) (b0 : Bool) (r1 : Rows) (b2 : Bool) (r3 : Rows) : ref04_Like_v n b0 r1 b2 r3 =
  bif (↑(List.length r1) : Int) != (↑(List.length r3) : Int) then
    some (false, ())
  else ref04_Like_l4 n b0 r1 b2 r3 n 0 := by kernel_rfl
theorem ref04_Like_c (n : Nat) (b0 : Bool) (r1 : Rows) (b2 : Bool) (r3 : Rows) (y : Bool × Unit) (h : ref04_Like_v n b0 r1 b2 r3 = some y) : Contract Try.prog 23 [AV.sl b0 [Kd.s, Kd.s, Kd.s, Kd.sl [Kd.b, Kd.i IntKind.i64, Kd.s]] r1 Right.no, AV.sl b2 [Kd.s, Kd.s, Kd.s, Kd.sl [Kd.b, Kd.i IntKind.i64, Kd.s]] r3 Right.no] [] (OSh.enc (OSh.plain (.b) []) y) :=
  auto_okM tm_std (with_ok mixed (by kernel_rfl) (ref04_Like_σok n) n 0 []) (with_pick mixed (by kernel_rfl) (ref04_Like_σok n) n 0 []) mixed Try.func23 (by decide) (o := (OSh.plain (.b) [])) h
/-! law11_MatchHeads: function 6 -/
def law11_MatchHeads_lv : Live := []
noncomputable def law11_MatchHeads_σ (n : Nat) : Spec := (inst 15 [.agg [.s, .b, .i IntKind.i64, .s, .s, .sl [Kd.s, Kd.b, Kd.i IntKind.i64, Kd.s], .s, .b, .i IntKind.i64, .s, .sl [Kd.s, Kd.b, Kd.i IntKind.i64, Kd.s, Kd.s, Kd.sl [Kd.s, Kd.b, Kd.i IntKind.i64, Kd.s], Kd.s, Kd.b, Kd.i IntKind.i64, Kd.s]], .sl [Kd.s, Kd.s, Kd.s, Kd.sl [Kd.b, Kd.i IntKind.i64, Kd.s]], .sl [Kd.s, Kd.b, Kd.i IntKind.i64, Kd.s]] [] (OSh.plain (.b) []) (fun x e => law11_light_v n x.1.1 x.1.2.1 x.1.2.2.1 x.1.2.2.2.1 x.1.2.2.2.2.1 x.1.2.2.2.2.2.1.1 x.1.2.2.2.2.2.1.2 x.1.2.2.2.2.2.2.1 x.1.2.2.2.2.2.2.2.1 x.1.2.2.2.2.2.2.2.2.1 x.1.2.2.2.2.2.2.2.2.2.1 x.1.2.2.2.2.2.2.2.2.2.2.1.1 x.1.2.2.2.2.2.2.2.2.2.2.1.2 x.2.1.1 x.2.1.2 x.2.2.1.1 x.2.2.1.2) (inst 9 [] [] (OSh.plain (.b) []) (fun x e => law11_live_v n) (inst 19 [.agg [.s, .b, .i IntKind.i64, .s, .s, .sl [Kd.s, Kd.b, Kd.i IntKind.i64, Kd.s], .s, .b, .i IntKind.i64, .s, .sl [Kd.s, Kd.b, Kd.i IntKind.i64, Kd.s, Kd.s, Kd.sl [Kd.s, Kd.b, Kd.i IntKind.i64, Kd.s], Kd.s, Kd.b, Kd.i IntKind.i64, Kd.s]], .sl [Kd.s, Kd.b, Kd.i IntKind.i64, Kd.s]] [] (OSh.plain (.tup [.agg [.s, .s, .s, .sl [Kd.b, Kd.i IntKind.i64, Kd.s]], .b]) []) (fun x e => match_Head_v n x.1.1 x.1.2.1 x.1.2.2.1 x.1.2.2.2.1 x.1.2.2.2.2.1 x.1.2.2.2.2.2.1.1 x.1.2.2.2.2.2.1.2 x.1.2.2.2.2.2.2.1 x.1.2.2.2.2.2.2.2.1 x.1.2.2.2.2.2.2.2.2.1 x.1.2.2.2.2.2.2.2.2.2.1 x.1.2.2.2.2.2.2.2.2.2.2.1.1 x.1.2.2.2.2.2.2.2.2.2.2.1.2 x.2.1.1 x.2.1.2) (inst 20 [.agg [.s, .b, .i IntKind.i64, .s, .s, .sl [Kd.s, Kd.b, Kd.i IntKind.i64, Kd.s], .s, .b, .i IntKind.i64, .s, .sl [Kd.s, Kd.b, Kd.i IntKind.i64, Kd.s, Kd.s, Kd.sl [Kd.s, Kd.b, Kd.i IntKind.i64, Kd.s], Kd.s, Kd.b, Kd.i IntKind.i64, Kd.s]], .sl [Kd.s, Kd.b, Kd.i IntKind.i64, Kd.s]] [] (OSh.plain (.tup [.agg [.s, .s, .s, .sl [Kd.b, Kd.i IntKind.i64, Kd.s]], .b]) []) (fun x e => ref11_Head_v n x.1.1 x.1.2.1 x.1.2.2.1 x.1.2.2.2.1 x.1.2.2.2.2.1 x.1.2.2.2.2.2.1.1 x.1.2.2.2.2.2.1.2 x.1.2.2.2.2.2.2.1 x.1.2.2.2.2.2.2.2.1 x.1.2.2.2.2.2.2.2.2.1 x.1.2.2.2.2.2.2.2.2.2.1 x.1.2.2.2.2.2.2.2.2.2.2.1.1 x.1.2.2.2.2.2.2.2.2.2.2.1.2 x.2.1.1 x.2.1.2) (inst 21 [.agg [.s, .b, .i IntKind.i64, .s, .s, .sl [Kd.s, Kd.b, Kd.i IntKind.i64, Kd.s], .s, .b, .i IntKind.i64, .s, .sl [Kd.s, Kd.b, Kd.i IntKind.i64, Kd.s, Kd.s, Kd.sl [Kd.s, Kd.b, Kd.i IntKind.i64, Kd.s], Kd.s, Kd.b, Kd.i IntKind.i64, Kd.s]], .sl [Kd.s, Kd.b, Kd.i IntKind.i64, Kd.s]] [] (OSh.plain (.tup [.slt [Kd.s, Kd.s, Kd.s, Kd.sl [Kd.b, Kd.i IntKind.i64, Kd.s]] 0, .b]) []) (fun x e => match_Body_v n x.1.1 x.1.2.1 x.1.2.2.1 x.1.2.2.2.1 x.1.2.2.2.2.1 x.1.2.2.2.2.2.1.1 x.1.2.2.2.2.2.1.2 x.1.2.2.2.2.2.2.1 x.1.2.2.2.2.2.2.2.1 x.1.2.2.2.2.2.2.2.2.1 x.1.2.2.2.2.2.2.2.2.2.1 x.1.2.2.2.2.2.2.2.2.2.2.1.1 x.1.2.2.2.2.2.2.2.2.2.2.1.2 x.2.1.1 x.2.1.2) (inst 22 [.agg [.s, .b, .i IntKind.i64, .s, .s, .sl [Kd.s, Kd.b, Kd.i IntKind.i64, Kd.s], .s, .b, .i IntKind.i64, .s, .sl [Kd.s, Kd.b, Kd.i IntKind.i64, Kd.s, Kd.s, Kd.sl [Kd.s, Kd.b, Kd.i IntKind.i64, Kd.s], Kd.s, Kd.b, Kd.i IntKind.i64, Kd.s]], .sl [Kd.s, Kd.b, Kd.i IntKind.i64, Kd.s]] [] (OSh.plain (.tup [.slt [Kd.s, Kd.s, Kd.s, Kd.sl [Kd.b, Kd.i IntKind.i64, Kd.s]] 0, .b]) []) (fun x e => ref11_Body_v n x.1.1 x.1.2.1 x.1.2.2.1 x.1.2.2.2.1 x.1.2.2.2.2.1 x.1.2.2.2.2.2.1.1 x.1.2.2.2.2.2.1.2 x.1.2.2.2.2.2.2.1 x.1.2.2.2.2.2.2.2.1 x.1.2.2.2.2.2.2.2.2.1 x.1.2.2.2.2.2.2.2.2.2.1 x.1.2.2.2.2.2.2.2.2.2.2.1.1 x.1.2.2.2.2.2.2.2.2.2.2.1.2 x.2.1.1 x.2.1.2) (inst 18 [.agg [.s, .s, .s, .sl [Kd.b, Kd.i IntKind.i64, Kd.s]], .agg [.s, .s, .s, .sl [Kd.b, Kd.i IntKind.i64, Kd.s]]] [] (OSh.plain (.i IntKind.i64) []) (fun x e => ref04_Order_v n x.1.1 x.1.2.1 x.1.2.2.1 x.1.2.2.2.1.1 x.1.2.2.2.1.2 x.2.1.1 x.2.1.2.1 x.2.1.2.2.1 x.2.1.2.2.2.1.1 x.2.1.2.2.2.1.2) (inst 23 [.sl [Kd.s, Kd.s, Kd.s, Kd.sl [Kd.b, Kd.i IntKind.i64, Kd.s]], .sl [Kd.s, Kd.s, Kd.s, Kd.sl [Kd.b, Kd.i IntKind.i64, Kd.s]]] [] (OSh.plain (.b) []) (fun x e => ref04_Like_v n x.1.1 x.1.2 x.2.1.1 x.2.1.2) Spec.none))))))))
theorem law11_MatchHeads_σok (n : Nat) : SpecOk Try.prog (law11_MatchHeads_σ n) := (inst_ok (fun x e y h => law11_light_c n x.1.1 x.1.2.1 x.1.2.2.1 x.1.2.2.2.1 x.1.2.2.2.2.1 x.1.2.2.2.2.2.1.1 x.1.2.2.2.2.2.1.2 x.1.2.2.2.2.2.2.1 x.1.2.2.2.2.2.2.2.1 x.1.2.2.2.2.2.2.2.2.1 x.1.2.2.2.2.2.2.2.2.2.1 x.1.2.2.2.2.2.2.2.2.2.2.1.1 x.1.2.2.2.2.2.2.2.2.2.2.1.2 x.2.1.1 x.2.1.2 x.2.2.1.1 x.2.2.1.2 y h) (inst_ok (fun x e y h => law11_live_c n y h) (inst_ok (fun x e y h => match_Head_c n x.1.1 x.1.2.1 x.1.2.2.1 x.1.2.2.2.1 x.1.2.2.2.2.1 x.1.2.2.2.2.2.1.1 x.1.2.2.2.2.2.1.2 x.1.2.2.2.2.2.2.1 x.1.2.2.2.2.2.2.2.1 x.1.2.2.2.2.2.2.2.2.1 x.1.2.2.2.2.2.2.2.2.2.1 x.1.2.2.2.2.2.2.2.2.2.2.1.1 x.1.2.2.2.2.2.2.2.2.2.2.1.2 x.2.1.1 x.2.1.2 y h) (inst_ok (fun x e y h => ref11_Head_c n x.1.1 x.1.2.1 x.1.2.2.1 x.1.2.2.2.1 x.1.2.2.2.2.1 x.1.2.2.2.2.2.1.1 x.1.2.2.2.2.2.1.2 x.1.2.2.2.2.2.2.1 x.1.2.2.2.2.2.2.2.1 x.1.2.2.2.2.2.2.2.2.1 x.1.2.2.2.2.2.2.2.2.2.1 x.1.2.2.2.2.2.2.2.2.2.2.1.1 x.1.2.2.2.2.2.2.2.2.2.2.1.2 x.2.1.1 x.2.1.2 y h) (inst_ok (fun x e y h => match_Body_c n x.1.1 x.1.2.1 x.1.2.2.1 x.1.2.2.2.1 x.1.2.2.2.2.1 x.1.2.2.2.2.2.1.1 x.1.2.2.2.2.2.1.2 x.1.2.2.2.2.2.2.1 x.1.2.2.2.2.2.2.2.1 x.1.2.2.2.2.2.2.2.2.1 x.1.2.2.2.2.2.2.2.2.2.1 x.1.2.2.2.2.2.2.2.2.2.2.1.1 x.1.2.2.2.2.2.2.2.2.2.2.1.2 x.2.1.1 x.2.1.2 y h) (inst_ok (fun x e y h => ref11_Body_c n x.1.1 x.1.2.1 x.1.2.2.1 x.1.2.2.2.1 x.1.2.2.2.2.1 x.1.2.2.2.2.2.1.1 x.1.2.2.2.2.2.1.2 x.1.2.2.2.2.2.2.1 x.1.2.2.2.2.2.2.2.1 x.1.2.2.2.2.2.2.2.2.1 x.1.2.2.2.2.2.2.2.2.2.1 x.1.2.2.2.2.2.2.2.2.2.2.1.1 x.1.2.2.2.2.2.2.2.2.2.2.1.2 x.2.1.1 x.2.1.2 y h) (inst_ok (fun x e y h => ref04_Order_c n x.1.1 x.1.2.1 x.1.2.2.1 x.1.2.2.2.1.1 x.1.2.2.2.1.2 x.2.1.1 x.2.1.2.1 x.2.1.2.2.1 x.2.1.2.2.2.1.1 x.2.1.2.2.2.1.2 y h) (inst_ok (fun x e y h => ref04_Like_c n x.1.1 x.1.2 x.2.1.1 x.2.1.2 y h) (SpecOk.none _)))))))))
noncomputable def law11_MatchHeads_Φ (n : Nat) : Orc := with_ Try.prog (law11_MatchHeads_σ n) [] n 0 []
noncomputable def law11_MatchHeads_v (n : Nat) (s0 : ByteArray) (b1 : Bool) (j2 : Int) (s3 : ByteArray) (s4 : ByteArray) (b5 : Bool) (r6 : Rows) (s7 : ByteArray) (b8 : Bool) (j9 : Int) (s10 : ByteArray) (b11 : Bool) (r12 : Rows) (b13 : Bool) (r14 : Rows) : Option (Bool × Unit) :=
  DM.denFn tm (law11_MatchHeads_Φ n) law11_MatchHeads_lv n Try.f6 false [AV.agg [AV.dv (DV.val (Value.string s0)), AV.dv (DV.val (Value.bool b1)), AV.dv (DV.val (Value.int IntKind.i64 j2)), AV.dv (DV.val (Value.string s3)), AV.dv (DV.val (Value.string s4)), AV.sl b5 [Kd.s, Kd.b, Kd.i IntKind.i64, Kd.s] r6 Right.no, AV.dv (DV.val (Value.string s7)), AV.dv (DV.val (Value.bool b8)), AV.dv (DV.val (Value.int IntKind.i64 j9)), AV.dv (DV.val (Value.string s10)), AV.sl b11 [Kd.s, Kd.b, Kd.i IntKind.i64, Kd.s, Kd.s, Kd.sl [Kd.s, Kd.b, Kd.i IntKind.i64, Kd.s], Kd.s, Kd.b, Kd.i IntKind.i64, Kd.s] r12 Right.no], AV.sl b13 [Kd.s, Kd.b, Kd.i IntKind.i64, Kd.s] r14 Right.no] [] (OSh.chk (OSh.plain (.b) []))
theorem law11_MatchHeads_e (n : Nat) (s0 : ByteArray) (b1 : Bool) (j2 : Int) (s3 : ByteArray) (s4 : ByteArray) (b5 : Bool) (r6 : Rows) (s7 : ByteArray) (b8 : Bool) (j9 : Int) (s10 : ByteArray) (b11 : Bool) (r12 : Rows) (b13 : Bool) (r14 : Rows) : law11_MatchHeads_v n s0 b1 j2 s3 s4 b5 r6 s7 b8 j9 s10 b11 r12 b13 r14 =
  obind (law11_light_v n s0 b1 j2 s3 s4 b5 r6 s7 b8 j9 s10 b11 r12 true [] b13 r14) fun y15 =>
  bif !y15.fst then
    obind (law11_live_v n) fun y16 =>
    some (y16.fst, ())
  else obind (match_Head_v n s0 b1 j2 s3 s4 b5 r6 s7 b8 j9 s10 b11 r12 b13 r14) fun y17 =>
  obind (ref11_Head_v n s0 b1 j2 s3 s4 b5 r6 s7 b8 j9 s10 b11 r12 b13 r14) fun y18 =>
  obind (match_Body_v n s0 b1 j2 s3 s4 b5 r6 s7 b8 j9 s10 b11 r12 b13 r14) fun y19 =>
  obind (ref11_Body_v n s0 b1 j2 s3 s4 b5 r6 s7 b8 j9 s10 b11 r12 b13 r14) fun y20 =>
  obind (ref04_Order_v n y17.fst.fst.fst y17.fst.fst.snd.fst y17.fst.fst.snd.snd.fst y17.fst.fst.snd.snd.snd.fst.fst y17.fst.fst.snd.snd.snd.fst.snd y18.fst.fst.fst y18.fst.fst.snd.fst y18.fst.fst.snd.snd.fst y18.fst.fst.snd.snd.snd.fst.fst y18.fst.fst.snd.snd.snd.fst.snd) fun y21 =>
  bif y21.fst == 0 then
    bif y17.fst.snd.fst == y18.fst.snd.fst then
      obind (ref04_Like_v n y19.fst.fst.fst y19.fst.fst.snd y20.fst.fst.fst y20.fst.fst.snd) fun y22 =>
      bif y22.fst then
        bif y19.fst.snd.fst == y20.fst.snd.fst then
          obind (law11_live_v n) fun y23 =>
          some (y23.fst, ())
        else some (false, ())
      else some (false, ())
    else some (false, ())
  else some (false, ()) := by kernel_rfl
theorem law11_MatchHeads_c (n : Nat) (s0 : ByteArray) (b1 : Bool) (j2 : Int) (s3 : ByteArray) (s4 : ByteArray) (b5 : Bool) (r6 : Rows) (s7 : ByteArray) (b8 : Bool) (j9 : Int) (s10 : ByteArray) (b11 : Bool) (r12 : Rows) (b13 : Bool) (r14 : Rows) (y : Bool × Unit) (h : law11_MatchHeads_v n s0 b1 j2 s3 s4 b5 r6 s7 b8 j9 s10 b11 r12 b13 r14 = some y) : Contract Try.prog 6 [AV.agg [AV.dv (DV.val (Value.string s0)), AV.dv (DV.val (Value.bool b1)), AV.dv (DV.val (Value.int IntKind.i64 j2)), AV.dv (DV.val (Value.string s3)), AV.dv (DV.val (Value.string s4)), AV.sl b5 [Kd.s, Kd.b, Kd.i IntKind.i64, Kd.s] r6 Right.no, AV.dv (DV.val (Value.string s7)), AV.dv (DV.val (Value.bool b8)), AV.dv (DV.val (Value.int IntKind.i64 j9)), AV.dv (DV.val (Value.string s10)), AV.sl b11 [Kd.s, Kd.b, Kd.i IntKind.i64, Kd.s, Kd.s, Kd.sl [Kd.s, Kd.b, Kd.i IntKind.i64, Kd.s], Kd.s, Kd.b, Kd.i IntKind.i64, Kd.s] r12 Right.no], AV.sl b13 [Kd.s, Kd.b, Kd.i IntKind.i64, Kd.s] r14 Right.no] [] (OSh.enc (OSh.plain (.b) []) y) :=
  auto_okM tm_std (with_ok mixed (by kernel_rfl) (law11_MatchHeads_σok n) n 0 []) (with_pick mixed (by kernel_rfl) (law11_MatchHeads_σok n) n 0 []) mixed Try.func6 (by decide) (o := (OSh.plain (.b) [])) h
end Go.Den
