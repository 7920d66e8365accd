/- The statement MatchInstances is proved: the law returns true, and does not panic, for every input; no conditions. -/
import Derived.Test.YtamalelonhdfaaaMC
import Derived.Test.YtamalelonhdfaaaRows
import Derived.WalkKit
import Derived.ProofKit
import Derived.OpenShut
import Derived.JoinedOf
set_option linter.unusedVariables false
set_option linter.unusedSimpArgs false
set_option linter.unusedSectionVars false
namespace Go.Proofs.Ytamalelonhdfaaa.matchInstances
open Go.Den Go.ChangeShapes Go.WideShapes Go.ChangeAt Go.RowKit
set_option maxRecDepth 100000
theorem own : ownKnob Try.prog.godebug = none := by kernel_rfl
theorem laidOut : laidOutB Try.prog = true := by kernel_rfl
theorem contract : ∀ rows, Fits Try.prog [37, 26, 3] rows → Contract Try.prog 8 (argsA Try.prog [37, 26, 3] rows) [] ⟨false, .B true, []⟩ := by
  intro rows h
  match rows, h with
  | [r0, r1, r2], h =>
    have e : argsA Try.prog [37, 26, 3] [r0, r1, r2] = [.agg [.S (Row.S r0 0), .B (Row.B r0 1), .I .i64 (Row.I r0 2), .S (Row.S r0 3), .S (Row.S r0 4), .sl (Row.N r0 5) [.s, .b, .i .i64, .s] (Row.R r0 5) .no, .S (Row.S r0 6), .B (Row.B r0 7), .I .i64 (Row.I r0 8), .S (Row.S r0 9), .sl (Row.N r0 10) [.s, .b, .i .i64, .s, .s, .sl [.s, .b, .i .i64, .s], .s, .b, .i .i64, .s] (Row.R r0 10) .no], .sl (Row.N r1 0) [.s, .b, .i .i64, .s] (Row.R r1 0) .no, .I .i64 (Row.I r2 0)] := by kernel_rfl
    rw [e]
    obtain ⟨⟨ks0, hk0, ho0, hf0⟩, h⟩ := h
    obtain rfl : ks0 = [.s, .b, .i .i64, .s, .s, .sl [.s, .b, .i .i64, .s], .s, .b, .i .i64, .s, .sl [.s, .b, .i .i64, .s, .s, .sl [.s, .b, .i .i64, .s], .s, .b, .i .i64, .s]] := Option.some.inj (hk0.symm.trans (by kernel_rfl))
    obtain ⟨⟨ks1, hk1, ho1, hf1⟩, h⟩ := h
    obtain rfl : ks1 = [.sl [.s, .b, .i .i64, .s]] := Option.some.inj (hk1.symm.trans (by kernel_rfl))
    obtain ⟨⟨ks2, hk2, ho2, hf2⟩, h⟩ := h
    obtain rfl : ks2 = [.i .i64] := Option.some.inj (hk2.symm.trans (by kernel_rfl))
    obtain ⟨n, hn⟩ := law11_MatchInstances_pure (Row.S r0 0) (Row.B r0 1) (Row.I r0 2) (Row.S r0 3) (Row.S r0 4) (Row.N r0 5) (Row.R r0 5) (Row.S r0 6) (Row.B r0 7) (Row.I r0 8) (Row.S r0 9) (Row.N r0 10) (Row.R r0 10) (Row.N r1 0) (Row.R r1 0) (Row.I r2 0) (fine_S (j := 0) hf0) (fine_I (j := 2) ho0 hf0 rfl) (fine_S (j := 3) hf0) (fine_S (j := 4) hf0) (fine_sl (j := 5) ho0 hf0 rfl) (fine_S (j := 6) hf0) (fine_I (j := 8) ho0 hf0 rfl) (fine_S (j := 9) hf0) (fine_sl (j := 10) ho0 hf0 rfl) (fine_sl (j := 0) ho1 hf1 rfl) (fine_I (j := 0) ho2 hf2 rfl)
    exact law11_MatchInstances_c n (Row.S r0 0) (Row.B r0 1) (Row.I r0 2) (Row.S r0 3) (Row.S r0 4) (Row.N r0 5) (Row.R r0 5) (Row.S r0 6) (Row.B r0 7) (Row.I r0 8) (Row.S r0 9) (Row.N r0 10) (Row.R r0 10) (Row.N r1 0) (Row.R r1 0) (Row.I r2 0) _ hn
  | [], h => exact h.elim
  | [_], h => exact h.2.elim
  | [_, _], h => exact h.2.2.elim
  | _ :: _ :: _ :: _ :: _, h => exact h.2.2.2.elim
theorem lifted (os : Os) (started : os.Started) (H : Type) (enc : TypeId × Value → H) :
    ReturnsInHanded {} Try.checked os 8 .any (Rows.matchInstancesSpec.pre6 enc Try.prog Try.f8 Rows.matchInstancesRow.domain false) (Rows.matchInstancesSpec.post enc Try.prog Try.f8 false true false false) :=
  lifted_of (C := Try.checked) started own (by kernel_rfl) Try.func8
    (ChangeSpec.witness6 (enc := enc) (C := Try.checked) false ⟨#[], #[.agg #[.string ByteArray.empty, .bool false, .int .i64 0, .string ByteArray.empty, .string ByteArray.empty, .slice none 0 0, .string ByteArray.empty, .bool false, .int .i64 0, .string ByteArray.empty, .slice none 0 0], .slice none 0 0, .int .i64 0], []⟩ 8 (by kernel_rfl) (by kernel_rfl) (by kernel_rfl) (by kernel_rfl))
    laidOut (ts := [37, 26, 3]) (by kernel_rfl) (by kernel_rfl) rfl (fun ds h => by
      match ds, h with
      | [a, b, c], _ => rfl) (rt := 4) (by kernel_rfl) (by kernel_rfl) contract
theorem over : Rows.matchInstancesRow.holds Try.pinned (OpenSpec.ofChange Rows.matchInstancesSpec) :=
  OpenClaim.holds_of_wide 8 Try.f8 rfl rfl rfl rfl rfl rfl rfl ⟨rfl, rfl, rfl, rfl, rfl⟩ rfl rfl rfl rfl rfl (by kernel_rfl) Try.func8 (by kernel_rfl)
    (of_decide_eq_true (by kernel_rfl)) (by unfold Func.isWrapper; first | (rw [if_pos (by decide +kernel)]; kernel_rfl) | (rw [if_neg (by decide +kernel)]; exact ⟨rfl, rfl⟩))
    (fun os started H enc _ => lifted os started H enc)
theorem proved : Rows.MatchInstancesSaid := over
end Go.Proofs.Ytamalelonhdfaaa.matchInstances
namespace Go.Proofs.Ytamalelonhdfaaa
theorem matchInstances_holds : Rows.MatchInstancesSaid := matchInstances.proved
#print axioms matchInstances_holds
end Go.Proofs.Ytamalelonhdfaaa
