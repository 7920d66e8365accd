/- The statement FactCompares is proved: the law returns true, and does not panic, for every input; no conditions. -/
import Derived.Test.YtcpbnfnfmfaogaaD1
import Derived.Test.YtcpbnfnfmfaogaaRows
import Derived.WalkKit
import Derived.ProofKit
import Derived.OpenShut
import Derived.JoinedOf
set_option linter.unusedVariables false
set_option linter.unusedSimpArgs false
set_option linter.unusedSectionVars false
namespace Go.Proofs.Ytcpbnfnfmfaogaa.factCompares
open Go.Den Go.ChangeShapes Go.WideShapes Go.ChangeAt Go.RowKit
set_option maxRecDepth 100000
theorem own : ownKnob Try.prog.godebug = none := by kernel_rfl
theorem laidOut : laidOutB Try.prog = true := by kernel_rfl
theorem contract : ∀ rows, Fits Try.prog [23, 23] rows → Contract Try.prog 3 (argsA Try.prog [23, 23] rows) [] ⟨false, .B true, []⟩ := by
  intro rows h
  match rows, h with
  | [r0, r1], h =>
    have e : argsA Try.prog [23, 23] [r0, r1] = [.agg [.B (Row.B r0 0), .I .i64 (Row.I r0 1), .S (Row.S r0 2)], .agg [.B (Row.B r1 0), .I .i64 (Row.I r1 1), .S (Row.S r1 2)]] := by kernel_rfl
    rw [e]
    obtain ⟨⟨ks0, hk0, ho0, hf0⟩, h⟩ := h
    obtain rfl : ks0 = [.b, .i .i64, .s] := Option.some.inj (hk0.symm.trans (by kernel_rfl))
    obtain ⟨⟨ks1, hk1, ho1, hf1⟩, h⟩ := h
    obtain rfl : ks1 = [.b, .i .i64, .s] := Option.some.inj (hk1.symm.trans (by kernel_rfl))
    obtain ⟨n, hn⟩ := law04_FactCompares_pure (Row.B r0 0) (Row.I r0 1) (Row.S r0 2) (Row.B r1 0) (Row.I r1 1) (Row.S r1 2) (fine_I (j := 1) ho0 hf0 rfl) (fine_S (j := 2) hf0) (fine_I (j := 1) ho1 hf1 rfl) (fine_S (j := 2) hf1)
    exact law04_FactCompares_c n (Row.B r0 0) (Row.I r0 1) (Row.S r0 2) (Row.B r1 0) (Row.I r1 1) (Row.S r1 2) _ hn
  | [], h => exact h.elim
  | [_], h => exact h.2.elim
  | _ :: _ :: _ :: _, h => exact h.2.2.elim
theorem lifted (os : Os) (started : os.Started) (H : Type) (enc : TypeId × Value → H) :
    ReturnsInHanded {} Try.checked os 3 .any (Rows.factComparesSpec.pre6 enc Try.prog Try.f3 Rows.factComparesRow.domain false) (Rows.factComparesSpec.post enc Try.prog Try.f3 false true false false) :=
  lifted_of (C := Try.checked) started own (by kernel_rfl) Try.func3
    (ChangeSpec.witness6 (enc := enc) (C := Try.checked) false ⟨#[], #[.agg #[.bool false, .int .i64 0, .string ByteArray.empty], .agg #[.bool false, .int .i64 0, .string ByteArray.empty]], []⟩ 8 (by kernel_rfl) (by kernel_rfl) (by kernel_rfl) (by kernel_rfl))
    laidOut (ts := [23, 23]) (by kernel_rfl) (by kernel_rfl) rfl (fun ds h => by
      match ds, h with
      | [a, b], _ => rfl) (rt := 4) (by kernel_rfl) (by kernel_rfl) contract
theorem over : Rows.factComparesRow.holds Try.pinned (OpenSpec.ofChange Rows.factComparesSpec) :=
  OpenClaim.holds_of_wide 3 Try.f3 rfl rfl rfl rfl rfl rfl rfl ⟨rfl, rfl, rfl, rfl, rfl⟩ rfl rfl rfl rfl rfl (by kernel_rfl) Try.func3 (by kernel_rfl)
    (of_decide_eq_true (by kernel_rfl)) (by unfold Func.isWrapper; first | (rw [if_pos (by decide +kernel)]; kernel_rfl) | (rw [if_neg (by decide +kernel)]; exact ⟨rfl, rfl⟩))
    (fun os started H enc _ => lifted os started H enc)
theorem proved : Rows.FactComparesSaid := over
end Go.Proofs.Ytcpbnfnfmfaogaa.factCompares
namespace Go.Proofs.Ytcpbnfnfmfaogaa
theorem factCompares_holds : Rows.FactComparesSaid := factCompares.proved
#print axioms factCompares_holds
end Go.Proofs.Ytcpbnfnfmfaogaa
