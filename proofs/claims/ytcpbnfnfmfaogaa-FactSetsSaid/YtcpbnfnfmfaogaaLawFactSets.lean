/- The statement FactSets is proved: the law returns true, and does not panic, for every input; no conditions. -/
import Derived.Test.YtcpbnfnfmfaogaaDB
import Derived.Test.YtcpbnfnfmfaogaaRows
import Derived.WalkKit
import Derived.ProofKit
import Derived.OpenShut
import Derived.JoinedOf
set_option linter.unusedVariables false
set_option linter.unusedSimpArgs false
set_option linter.unusedSectionVars false
namespace Go.Proofs.Ytcpbnfnfmfaogaa.factSets
open Go.Den Go.ChangeShapes Go.WideShapes Go.ChangeAt Go.RowKit
set_option maxRecDepth 100000
theorem own : ownKnob Try.prog.godebug = none := by kernel_rfl
theorem laidOut : laidOutB Try.prog = true := by kernel_rfl
theorem contract : ∀ rows, Fits Try.prog [33, 33, 30] rows → Contract Try.prog 8 (argsA Try.prog [33, 33, 30] rows) [] ⟨false, .B true, []⟩ := by
  intro rows h
  match rows, h with
  | [r0, r1, r2], h =>
    have e : argsA Try.prog [33, 33, 30] [r0, r1, r2] = [.sl (Row.N r0 0) [.s, .s, .s, .sl [.b, .i .i64, .s]] (Row.R r0 0) .no, .sl (Row.N r1 0) [.s, .s, .s, .sl [.b, .i .i64, .s]] (Row.R r1 0) .no, .agg [.S (Row.S r2 0), .S (Row.S r2 1), .S (Row.S r2 2), .sl (Row.N r2 3) [.b, .i .i64, .s] (Row.R r2 3) .no]] := by kernel_rfl
    rw [e]
    obtain ⟨⟨ks0, hk0, ho0, hf0⟩, h⟩ := h
    obtain rfl : ks0 = [.sl [.s, .s, .s, .sl [.b, .i .i64, .s]]] := Option.some.inj (hk0.symm.trans (by kernel_rfl))
    obtain ⟨⟨ks1, hk1, ho1, hf1⟩, h⟩ := h
    obtain rfl : ks1 = [.sl [.s, .s, .s, .sl [.b, .i .i64, .s]]] := Option.some.inj (hk1.symm.trans (by kernel_rfl))
    obtain ⟨⟨ks2, hk2, ho2, hf2⟩, h⟩ := h
    obtain rfl : ks2 = [.s, .s, .s, .sl [.b, .i .i64, .s]] := Option.some.inj (hk2.symm.trans (by kernel_rfl))
    obtain ⟨n, hn⟩ := law04_FactSets_pure (Row.N r0 0) (Row.R r0 0) (Row.N r1 0) (Row.R r1 0) (Row.S r2 0) (Row.S r2 1) (Row.S r2 2) (Row.N r2 3) (Row.R r2 3) (fine_sl (j := 0) ho0 hf0 rfl) (fine_sl (j := 0) ho1 hf1 rfl) (fine_S (j := 0) hf2) (fine_S (j := 1) hf2) (fine_S (j := 2) hf2) (fine_sl (j := 3) ho2 hf2 rfl)
    exact law04_FactSets_c n (Row.N r0 0) (Row.R r0 0) (Row.N r1 0) (Row.R r1 0) (Row.S r2 0) (Row.S r2 1) (Row.S r2 2) (Row.N r2 3) (Row.R r2 3) _ hn
  | [], h => exact h.elim
  | [_], h => exact h.2.elim
  | [_, _], h => exact h.2.2.elim
  | _ :: _ :: _ :: _ :: _, h => exact h.2.2.2.elim
theorem lifted (os : Os) (started : os.Started) (H : Type) (enc : TypeId × Value → H) :
    ReturnsInHanded {} Try.checked os 8 .any (Rows.factSetsSpec.pre6 enc Try.prog Try.f8 Rows.factSetsRow.domain false) (Rows.factSetsSpec.post enc Try.prog Try.f8 false true false false) :=
  lifted_of (C := Try.checked) started own (by kernel_rfl) Try.func8
    (ChangeSpec.witness6 (enc := enc) (C := Try.checked) false ⟨#[], #[.slice none 0 0, .slice none 0 0, .agg #[.string ByteArray.empty, .string ByteArray.empty, .string ByteArray.empty, .slice none 0 0]], []⟩ 8 (by kernel_rfl) (by kernel_rfl) (by kernel_rfl) (by kernel_rfl))
    laidOut (ts := [33, 33, 30]) (by kernel_rfl) (by kernel_rfl) rfl (fun ds h => by
      match ds, h with
      | [a, b, c], _ => rfl) (rt := 4) (by kernel_rfl) (by kernel_rfl) contract
theorem over : Rows.factSetsRow.holds Try.pinned (OpenSpec.ofChange Rows.factSetsSpec) :=
  OpenClaim.holds_of_wide 8 Try.f8 rfl rfl rfl rfl rfl rfl rfl ⟨rfl, rfl, rfl, rfl, rfl⟩ rfl rfl rfl rfl rfl (by kernel_rfl) Try.func8 (by kernel_rfl)
    (of_decide_eq_true (by kernel_rfl)) (by unfold Func.isWrapper; first | (rw [if_pos (by decide +kernel)]; kernel_rfl) | (rw [if_neg (by decide +kernel)]; exact ⟨rfl, rfl⟩))
    (fun os started H enc _ => lifted os started H enc)
theorem proved : Rows.FactSetsSaid := over
end Go.Proofs.Ytcpbnfnfmfaogaa.factSets
namespace Go.Proofs.Ytcpbnfnfmfaogaa
theorem factSets_holds : Rows.FactSetsSaid := factSets.proved
#print axioms factSets_holds
end Go.Proofs.Ytcpbnfnfmfaogaa
