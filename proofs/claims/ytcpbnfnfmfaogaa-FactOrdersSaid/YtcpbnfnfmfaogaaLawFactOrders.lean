/- The statement FactOrders is proved: the law returns true, and does not panic, for every input; no conditions. -/
import Derived.Test.YtcpbnfnfmfaogaaD1
import Derived.Test.YtcpbnfnfmfaogaaRows
import Derived.WalkKit
import Derived.ProofKit
import Derived.OpenShut
import Derived.JoinedOf
set_option linter.unusedVariables false
set_option linter.unusedSimpArgs false
set_option linter.unusedSectionVars false
namespace Go.Proofs.Ytcpbnfnfmfaogaa.factOrders
open Go.Den Go.ChangeShapes Go.WideShapes Go.ChangeAt Go.RowKit
set_option maxRecDepth 100000
theorem own : ownKnob Try.prog.godebug = none := by kernel_rfl
theorem laidOut : laidOutB Try.prog = true := by kernel_rfl
theorem contract : ∀ rows, Fits Try.prog [30, 30, 30] rows → Contract Try.prog 4 (argsA Try.prog [30, 30, 30] rows) [] ⟨false, .B true, []⟩ := by
  intro rows h
  match rows, h with
  | [r0, r1, r2], h =>
    have e : argsA Try.prog [30, 30, 30] [r0, r1, r2] = [.agg [.S (Row.S r0 0), .S (Row.S r0 1), .S (Row.S r0 2), .sl (Row.N r0 3) [.b, .i .i64, .s] (Row.R r0 3) .no], .agg [.S (Row.S r1 0), .S (Row.S r1 1), .S (Row.S r1 2), .sl (Row.N r1 3) [.b, .i .i64, .s] (Row.R r1 3) .no], .agg [.S (Row.S r2 0), .S (Row.S r2 1), .S (Row.S r2 2), .sl (Row.N r2 3) [.b, .i .i64, .s] (Row.R r2 3) .no]] := by kernel_rfl
    rw [e]
    obtain ⟨⟨ks0, hk0, ho0, hf0⟩, h⟩ := h
    obtain rfl : ks0 = [.s, .s, .s, .sl [.b, .i .i64, .s]] := Option.some.inj (hk0.symm.trans (by kernel_rfl))
    obtain ⟨⟨ks1, hk1, ho1, hf1⟩, h⟩ := h
    obtain rfl : ks1 = [.s, .s, .s, .sl [.b, .i .i64, .s]] := Option.some.inj (hk1.symm.trans (by kernel_rfl))
    obtain ⟨⟨ks2, hk2, ho2, hf2⟩, h⟩ := h
    obtain rfl : ks2 = [.s, .s, .s, .sl [.b, .i .i64, .s]] := Option.some.inj (hk2.symm.trans (by kernel_rfl))
    obtain ⟨n, hn⟩ := law04_FactOrders_pure (Row.S r0 0) (Row.S r0 1) (Row.S r0 2) (Row.N r0 3) (Row.R r0 3) (Row.S r1 0) (Row.S r1 1) (Row.S r1 2) (Row.N r1 3) (Row.R r1 3) (Row.S r2 0) (Row.S r2 1) (Row.S r2 2) (Row.N r2 3) (Row.R r2 3) (fine_S (j := 0) hf0) (fine_S (j := 1) hf0) (fine_S (j := 2) hf0) (fine_sl (j := 3) ho0 hf0 rfl) (fine_S (j := 0) hf1) (fine_S (j := 1) hf1) (fine_S (j := 2) hf1) (fine_sl (j := 3) ho1 hf1 rfl) (fine_S (j := 0) hf2) (fine_S (j := 1) hf2) (fine_S (j := 2) hf2) (fine_sl (j := 3) ho2 hf2 rfl)
    exact law04_FactOrders_c n (Row.S r0 0) (Row.S r0 1) (Row.S r0 2) (Row.N r0 3) (Row.R r0 3) (Row.S r1 0) (Row.S r1 1) (Row.S r1 2) (Row.N r1 3) (Row.R r1 3) (Row.S r2 0) (Row.S r2 1) (Row.S r2 2) (Row.N r2 3) (Row.R r2 3) _ hn
  | [], h => exact h.elim
  | [_], h => exact h.2.elim
  | [_, _], h => exact h.2.2.elim
  | _ :: _ :: _ :: _ :: _, h => exact h.2.2.2.elim
theorem lifted (os : Os) (started : os.Started) (H : Type) (enc : TypeId × Value → H) :
    ReturnsInHanded {} Try.checked os 4 .any (Rows.factOrdersSpec.pre6 enc Try.prog Try.f4 Rows.factOrdersRow.domain false) (Rows.factOrdersSpec.post enc Try.prog Try.f4 false true false false) :=
  lifted_of (C := Try.checked) started own (by kernel_rfl) Try.func4
    (ChangeSpec.witness6 (enc := enc) (C := Try.checked) false ⟨#[], #[.agg #[.string ByteArray.empty, .string ByteArray.empty, .string ByteArray.empty, .slice none 0 0], .agg #[.string ByteArray.empty, .string ByteArray.empty, .string ByteArray.empty, .slice none 0 0], .agg #[.string ByteArray.empty, .string ByteArray.empty, .string ByteArray.empty, .slice none 0 0]], []⟩ 8 (by kernel_rfl) (by kernel_rfl) (by kernel_rfl) (by kernel_rfl))
    laidOut (ts := [30, 30, 30]) (by kernel_rfl) (by kernel_rfl) rfl (fun ds h => by
      match ds, h with
      | [a, b, c], _ => rfl) (rt := 4) (by kernel_rfl) (by kernel_rfl) contract
theorem over : Rows.factOrdersRow.holds Try.pinned (OpenSpec.ofChange Rows.factOrdersSpec) :=
  OpenClaim.holds_of_wide 4 Try.f4 rfl rfl rfl rfl rfl rfl rfl ⟨rfl, rfl, rfl, rfl, rfl⟩ rfl rfl rfl rfl rfl (by kernel_rfl) Try.func4 (by kernel_rfl)
    (of_decide_eq_true (by kernel_rfl)) (by unfold Func.isWrapper; first | (rw [if_pos (by decide +kernel)]; kernel_rfl) | (rw [if_neg (by decide +kernel)]; exact ⟨rfl, rfl⟩))
    (fun os started H enc _ => lifted os started H enc)
theorem proved : Rows.FactOrdersSaid := over
end Go.Proofs.Ytcpbnfnfmfaogaa.factOrders
namespace Go.Proofs.Ytcpbnfnfmfaogaa
theorem factOrders_holds : Rows.FactOrdersSaid := factOrders.proved
#print axioms factOrders_holds
end Go.Proofs.Ytcpbnfnfmfaogaa
