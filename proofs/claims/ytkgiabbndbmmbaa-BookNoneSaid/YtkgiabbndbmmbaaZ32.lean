import Derived.Test.YtkgiabbndbmmbaaZ30
import Derived.Test.YtkgiabbndbmmbaaZ31
set_option linter.unusedVariables false
set_option linter.unusedSimpArgs false
set_option linter.unusedSectionVars false
namespace Go.Den
open Go.Proofs
section
variable {n : Nat}
theorem add_none {j0 : Int} {s1 s2 s3 : ByteArray} {b4 b6 b8 : Bool} {r5 r7 r9 : Rows} : z34_v n j0 s1 s2 s3 b4 r5 b6 r7 b8 r9 false = some (false, (((b8, r9), (false, ())), ())) :=
  (z34_e ..).trans (obind_eq (z25_e ..) (cond_eqT rfl rfl))
theorem drop_none {j0 : Int} {s1 s2 s3 : ByteArray} {b4 b6 b8 : Bool} {r5 r7 r9 : Rows} : z31_v n j0 s1 s2 s3 b4 r5 b6 r7 b8 r9 false = some (false, (((b8, r9), (false, ())), ())) :=
  (z31_e ..).trans (obind_eq (z25_e ..) (cond_eqT rfl rfl))
theorem len_none {b8 : Bool} {r9 : Rows} : z35_v n b8 r9 false = some (0, (((b8, r9), (false, ())), ())) :=
  (z35_e ..).trans (obind_eq (z25_e ..) (cond_eqT rfl rfl))
theorem of_none {s0 s1 s2 : ByteArray} {b3 b8 : Bool} {r4 r9 : Rows} : z38_v n s0 s1 s2 b3 r4 b8 r9 false = some ((true, []), (((b8, r9), (false, ())), ())) :=
  (z38_e ..).trans (obind_eq ((z10_e ..).trans (obind_eq (z25_e ..) (cond_eqT rfl rfl))) rfl)
theorem uses_none {s0 s1 s2 : ByteArray} {b3 b8 : Bool} {r4 r9 : Rows} : z30_v n s0 s1 s2 b3 r4 b8 r9 false = some ((true, []), (((b8, r9), (false, ())), ())) :=
  (z30_e ..).trans (obind_eq ((z8_e ..).trans (obind_eq (z25_e ..) (cond_eqT rfl rfl))) rfl)
theorem heads_none {b8 : Bool} {r9 : Rows} : z27_v n b8 r9 false = some ((true, []), (((b8, r9), (false, ())), ())) :=
  (z27_e ..).trans (obind_eq (z25_e ..) (cond_eqT rfl rfl))
theorem founded_none {b b8 : Bool} {r r9 : Rows} : z24_v n b r b8 r9 false = some ((true, []), (((b8, r9), (false, ())), ())) :=
  (z24_e ..).trans (obind_eq (z25_e ..) (cond_eqT rfl rfl))
theorem clone_none {b8 : Bool} {r9 : Rows} : z26_v n b8 r9 false = some ((), (((b8, r9), (false, ())), ())) :=
  (z26_e ..).trans (obind_eq (z25_e ..) (cond_eqT rfl rfl))
theorem add_nilp {j0 : Int} {s1 s2 s3 : ByteArray} {b4 b6 : Bool} {r5 r7 : Rows} : z21_v n j0 s1 s2 s3 b4 r5 b6 r7 = some (false, ()) :=
  (z21_e ..).trans (obind_eq (z16_e ..) (cond_eqT rfl rfl))
theorem drop_nilp {j0 : Int} {s1 s2 s3 : ByteArray} {b4 b6 : Bool} {r5 r7 : Rows} : z17_v n j0 s1 s2 s3 b4 r5 b6 r7 = some (false, ()) :=
  (z17_e ..).trans (obind_eq (z16_e ..) (cond_eqT rfl rfl))
theorem len_nilp : z20_v n = some (0, ()) :=
  (z20_e ..).trans (obind_eq (z16_e ..) (cond_eqT rfl rfl))
theorem of_nilp {s0 s1 s2 : ByteArray} {b3 : Bool} {r4 : Rows} : z22_v n s0 s1 s2 b3 r4 = some ((true, []), ()) :=
  (z22_e ..).trans (obind_eq ((z3_e ..).trans (obind_eq (z16_e ..) (cond_eqT rfl rfl))) rfl)
theorem uses_nilp {s0 s1 s2 : ByteArray} {b3 : Bool} {r4 : Rows} : z19_v n s0 s1 s2 b3 r4 = some ((true, []), ()) :=
  (z19_e ..).trans (obind_eq ((z1_e ..).trans (obind_eq (z16_e ..) (cond_eqT rfl rfl))) rfl)
theorem heads_nilp : z14_v n = some ((true, []), ()) :=
  (z14_e ..).trans (obind_eq (z16_e ..) (cond_eqT rfl rfl))
theorem founded_nilp {b : Bool} {r : Rows} : z12_v n b r = some ((true, []), ()) :=
  (z12_e ..).trans (obind_eq (z16_e ..) (cond_eqT rfl rfl))
theorem clone_nilp : z15_v n = some ((), ()) :=
  (z15_e ..).trans (obind_eq (z16_e ..) (cond_eqT rfl rfl))
end
theorem zero4 : (IntKind.wrap IntKind.i64 (IntKind.wrap IntKind.i64 (IntKind.wrap IntKind.i64 (((([] : Rows).length : Nat) : Int) + ((([] : Rows).length : Nat) : Int)) + ((([] : Rows).length : Nat) : Int)) + ((([] : Rows).length : Nat) : Int)) != 0) = false := by decide
theorem z33_all (j0 : Int) (s1 s2 s3 : ByteArray) (b4 : Bool) (r5 : Rows) (b6 : Bool) (r7 : Rows) (s8 s9 s10 : ByteArray) (b11 : Bool) (r12 : Rows) : z33_v 2003 j0 s1 s2 s3 b4 r5 b6 r7 s8 s9 s10 b11 r12 = some (true, ()) := by
  have h2 : z33_l3 2003 j0 s1 s2 s3 b4 r5 b6 r7 s8 s9 s10 b11 r12 (2000 + 1) 2 true [] false = some (true, ()) := (z33_s3 ..).trans (cond_eqF (by decide) (obind_eq (live16 (by omega)) rfl))
  have h1 : z33_l3 2003 j0 s1 s2 s3 b4 r5 b6 r7 s8 s9 s10 b11 r12 (2001 + 1) 1 true [] false = some (true, ()) := by
    refine (z33_s3 ..).trans (cond_eqT (by decide) ?_)
    rw [if_neg (by decide : ¬ (1 : Int) = 0), if_pos (by decide : (1 : Int) = 0 + 1)]
    exact obind_eq add_none (cond_eqF rfl (obind_eq drop_none (cond_eqF rfl (obind_eq len_none (cond_eqF rfl (obind_eq of_none (obind_eq uses_none (obind_eq heads_none (obind_eq founded_none (cond_eqF zero4 (obind_eq clone_none h2)))))))))))
  refine (z33_e ..).trans ((z33_s3 2003 j0 s1 s2 s3 b4 r5 b6 r7 s8 s9 s10 b11 r12 2002 0 true [] false).trans (cond_eqT (by decide) ?_))
  rw [if_pos rfl]
  exact obind_eq add_nilp (cond_eqF rfl (obind_eq drop_nilp (cond_eqF rfl (obind_eq len_nilp (cond_eqF rfl (obind_eq of_nilp (obind_eq uses_nilp (obind_eq heads_nilp (obind_eq founded_nilp (cond_eqF zero4 (obind_eq clone_nilp h1)))))))))))
theorem z33_pure (j0 : Int) (s1 s2 s3 : ByteArray) (b4 : Bool) (r5 : Rows) (b6 : Bool) (r7 : Rows) (s8 s9 s10 : ByteArray) (b11 : Bool) (r12 : Rows) (_ : (Lit.int .i64 j0).wf = true) (_ : s1.size ≤ reachBytes) (_ : s2.size ≤ reachBytes) (_ : s3.size ≤ reachBytes) (_ : Fsl b4 [.b, .i .i64, .s] r5) (_ : Fsl b6 [.s, .s, .s, .sl [.b, .i .i64, .s]] r7) (_ : s8.size ≤ reachBytes) (_ : s9.size ≤ reachBytes) (_ : s10.size ≤ reachBytes) (_ : Fsl b11 [.b, .i .i64, .s] r12) : ∃ n, z33_v n j0 s1 s2 s3 b4 r5 b6 r7 s8 s9 s10 b11 r12 = some (true, ()) := ⟨2003, z33_all ..⟩
end Go.Den
