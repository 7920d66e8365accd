/- The statement FactOwns is proved: the law returns true, and does not panic, for every input; no conditions. -/
import Derived.Test.YtcpbnfnfmfaogaaD2
import Derived.Test.YtcpbnfnfmfaogaaRows
import Derived.WalkKit
import Derived.ProofKit
import Derived.OpenShut
import Derived.JoinedOf
set_option linter.unusedVariables false
set_option linter.unusedSimpArgs false
set_option linter.unusedSectionVars false
namespace Go.Proofs.Ytcpbnfnfmfaogaa.factOwns
open Go.Den Go.ChangeShapes Go.WideShapes Go.ChangeAt Go.RowKit
set_option maxRecDepth 100000
theorem own : ownKnob Try.prog.godebug = none := by kernel_rfl
theorem laidOut : laidOutB Try.prog = true := by kernel_rfl
theorem contract : ∀ rows, Fits Try.prog [9, 9, 28] rows → Contract Try.prog 6 (argsA Try.prog [9, 9, 28] rows) [] ⟨false, .B true, []⟩ := by
  intro rows h
  match rows, h with
  | [r0, r1, r2], h =>
    have e : argsA Try.prog [9, 9, 28] [r0, r1, r2] = [.S (Row.S r0 0), .S (Row.S r1 0), .sl (Row.N r2 0) [.b, .i .i64, .s] (Row.R r2 0) .no] := by kernel_rfl
    rw [e]
    obtain ⟨⟨ks0, hk0, ho0, hf0⟩, h⟩ := h
    obtain rfl : ks0 = [.s] := Option.some.inj (hk0.symm.trans (by kernel_rfl))
    obtain ⟨⟨ks1, hk1, ho1, hf1⟩, h⟩ := h
    obtain rfl : ks1 = [.s] := Option.some.inj (hk1.symm.trans (by kernel_rfl))
    obtain ⟨⟨ks2, hk2, ho2, hf2⟩, h⟩ := h
    obtain rfl : ks2 = [.sl [.b, .i .i64, .s]] := Option.some.inj (hk2.symm.trans (by kernel_rfl))
    obtain ⟨n, hn⟩ := law04_FactOwns_pure (Row.S r0 0) (Row.S r1 0) (Row.N r2 0) (Row.R r2 0) (fine_S (j := 0) hf0) (fine_S (j := 0) hf1) (fine_sl (j := 0) ho2 hf2 rfl)
    exact law04_FactOwns_c n (Row.S r0 0) (Row.S r1 0) (Row.N r2 0) (Row.R r2 0) _ hn
  | [], h => exact h.elim
  | [_], h => exact h.2.elim
  | [_, _], h => exact h.2.2.elim
  | _ :: _ :: _ :: _ :: _, h => exact h.2.2.2.elim
theorem lifted (os : Os) (started : os.Started) (H : Type) (enc : TypeId × Value → H) :
    ReturnsInHanded {} Try.checked os 6 .any (Rows.factOwnsSpec.pre6 enc Try.prog Try.f6 Rows.factOwnsRow.domain false) (Rows.factOwnsSpec.post enc Try.prog Try.f6 false true false false) :=
  lifted_of (C := Try.checked) started own (by kernel_rfl) Try.func6
    (ChangeSpec.witness6 (enc := enc) (C := Try.checked) false ⟨#[], #[.string ByteArray.empty, .string ByteArray.empty, .slice none 0 0], []⟩ 8 (by kernel_rfl) (by kernel_rfl) (by kernel_rfl) (by kernel_rfl))
    laidOut (ts := [9, 9, 28]) (by kernel_rfl) (by kernel_rfl) rfl (fun ds h => by
      match ds, h with
      | [a, b, c], _ => rfl) (rt := 4) (by kernel_rfl) (by kernel_rfl) contract
theorem over : Rows.factOwnsRow.holds Try.pinned (OpenSpec.ofChange Rows.factOwnsSpec) :=
  OpenClaim.holds_of_wide 6 Try.f6 rfl rfl rfl rfl rfl rfl rfl ⟨rfl, rfl, rfl, rfl, rfl⟩ rfl rfl rfl rfl rfl (by kernel_rfl) Try.func6 (by kernel_rfl)
    (of_decide_eq_true (by kernel_rfl)) (by unfold Func.isWrapper; first | (rw [if_pos (by decide +kernel)]; kernel_rfl) | (rw [if_neg (by decide +kernel)]; exact ⟨rfl, rfl⟩))
    (fun os started H enc _ => lifted os started H enc)
theorem proved : Rows.FactOwnsSaid := over
end Go.Proofs.Ytcpbnfnfmfaogaa.factOwns
namespace Go.Proofs.Ytcpbnfnfmfaogaa
theorem factOwns_holds : Rows.FactOwnsSaid := factOwns.proved
#print axioms factOwns_holds
end Go.Proofs.Ytcpbnfnfmfaogaa
