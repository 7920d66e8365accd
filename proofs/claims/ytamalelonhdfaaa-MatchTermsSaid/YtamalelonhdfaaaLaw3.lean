import Derived.Test.YtamalelonhdfaaaL3
import Derived.Test.YtamalelonhdfaaaRows
import Derived.WalkKit
import Derived.ProofKit
import Derived.OpenShut
import Derived.JoinedOf
namespace Go.Proofs.Ytamalelonhdfaaa.matchTerms
open Go.Den Go.ChangeShapes Go.WideShapes Go.ChangeAt Go.RowKit
theorem own : ownKnob Try.prog.godebug = none := by kernel_rfl
theorem laidOut : laidOutB Try.prog = true := by kernel_rfl
theorem kd25 : kdsT Try.prog 9 25 = some kB := by kernel_rfl
theorem kd23 : kdsT Try.prog 9 23 = some [.b, .i .i64, .s] := by kernel_rfl
theorem kd26 : kdsT Try.prog 9 26 = some [.sl kB] := by kernel_rfl
theorem contract : ∀ rows, Fits Try.prog [25, 23, 26] rows → Contract Try.prog 3 (argsA Try.prog [25, 23, 26] rows) [] ⟨false, .B true, []⟩ := by
  intro rows h
  match rows, h with
  | [r0, r1, r2], h =>
    have e : argsA Try.prog [25, 23, 26] [r0, r1, r2] = [.agg [.S (Row.S r0 0), .B (Row.B r0 1), .I .i64 (Row.I r0 2), .S (Row.S r0 3)], .agg [.B (Row.B r1 0), .I .i64 (Row.I r1 1), .S (Row.S r1 2)], .sl (Row.N r2 0) kB (Row.R r2 0) .no] := by kernel_rfl
    rw [e]
    exact k3 _ _ _ _ _ _ _ _ _
  | [], h => exact h.elim
  | [_], h => exact h.2.elim
  | [_, _], h => exact h.2.2.elim
  | _ :: _ :: _ :: _ :: _, h => exact h.2.2.2.elim
set_option maxRecDepth 100000 in
theorem lifted (os : Os) (started : os.Started) (H : Type) (enc : TypeId × Value → H) :
    ReturnsInHanded {} Try.checked os 3 .any (Rows.matchTermsSpec.pre6 enc Try.prog Try.f3 Rows.matchTermsRow.domain false) (Rows.matchTermsSpec.post enc Try.prog Try.f3 false true false false) :=
  lifted_of (C := Try.checked) started own (by kernel_rfl) Try.func3
    (ChangeSpec.witness6 (enc := enc) (C := Try.checked) false ⟨#[], #[.agg #[.string ByteArray.empty, .bool false, .int .i64 0, .string ByteArray.empty], .agg #[.bool false, .int .i64 0, .string ByteArray.empty], .slice none 0 0], []⟩ 8 (by kernel_rfl) (by kernel_rfl) (by kernel_rfl) (by kernel_rfl))
    laidOut (ts := [25, 23, 26]) (by kernel_rfl) (by kernel_rfl) rfl (fun ds h => by
      match ds, h with
      | [a, b, c], _ => rfl) (rt := 4) (by kernel_rfl) (by kernel_rfl) contract
theorem over : Rows.matchTermsRow.holds Try.pinned (OpenSpec.ofChange Rows.matchTermsSpec) :=
  OpenClaim.holds_of_wide 3 Try.f3 rfl rfl rfl rfl rfl rfl rfl ⟨rfl, rfl, rfl, rfl, rfl⟩ rfl rfl rfl rfl rfl (by kernel_rfl) Try.func3 (by kernel_rfl)
    (of_decide_eq_true (by kernel_rfl)) (by unfold Func.isWrapper; first | (rw [if_pos (by decide +kernel)]; kernel_rfl) | (rw [if_neg (by decide +kernel)]; exact ⟨rfl, rfl⟩))
    (fun os started H enc _ => lifted os started H enc)
theorem proved : Rows.MatchTermsSaid := over
end Go.Proofs.Ytamalelonhdfaaa.matchTerms
namespace Go.Proofs.Ytamalelonhdfaaa
theorem matchTerms_holds : Rows.MatchTermsSaid := matchTerms.proved
#print axioms matchTerms_holds
end Go.Proofs.Ytamalelonhdfaaa
