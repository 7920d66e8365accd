/- The statement LexNumbers is proved: the law returns true, and does not panic, for every input; no conditions. -/
import Derived.Test.YtefebdknnedioaaLx13
import Derived.Test.YtefebdknnedioaaRows
import Derived.WalkKit
import Derived.ProofKit
import Derived.OpenShut
import Derived.JoinedOf
set_option linter.unusedVariables false
set_option linter.unusedSimpArgs false
set_option linter.unusedSectionVars false
namespace Go.Proofs.Ytefebdknnedioaa.lexNumbers
open Go.Den Go.ChangeShapes Go.WideShapes Go.ChangeAt Go.RowKit
set_option maxRecDepth 100000
theorem own : ownKnob Try.prog.godebug = none := by kernel_rfl
theorem laidOut : laidOutB Try.prog = true := by kernel_rfl
theorem contract : ∀ rows, Fits Try.prog [3] rows → Contract Try.prog 8 (argsA Try.prog [3] rows) [] ⟨false, .B true, []⟩ := by
  intro rows h
  match rows, h with
  | [r0], h =>
    have e : argsA Try.prog [3] [r0] = [.I .i64 (Row.I r0 0)] := by kernel_rfl
    rw [e]
    obtain ⟨⟨ks0, hk0, ho0, hf0⟩, h⟩ := h
    obtain rfl : ks0 = [.i .i64] := Option.some.inj (hk0.symm.trans (by kernel_rfl))
    obtain ⟨n, hn⟩ := law07_LexNumbers_pure (Row.I r0 0) (fine_I (j := 0) ho0 hf0 rfl)
    exact law07_LexNumbers_c n (Row.I r0 0) _ hn
  | [], h => exact h.elim
  | _ :: _ :: _, h => exact h.2.elim
theorem lifted (os : Os) (started : os.Started) (H : Type) (enc : TypeId × Value → H) :
    ReturnsInHanded {} Try.checked os 8 .any (Rows.lexNumbersSpec.pre6 enc Try.prog Try.f8 Rows.lexNumbersRow.domain false) (Rows.lexNumbersSpec.post enc Try.prog Try.f8 false true false false) :=
  lifted_of (C := Try.checked) started own (by kernel_rfl) Try.func8
    (ChangeSpec.witness6 (enc := enc) (C := Try.checked) false ⟨#[], #[.int .i64 0], []⟩ 8 (by kernel_rfl) (by kernel_rfl) (by kernel_rfl) (by kernel_rfl))
    laidOut (ts := [3]) (by kernel_rfl) (by kernel_rfl) rfl (fun ds h => by
      match ds, h with
      | [a], _ => rfl) (rt := 4) (by kernel_rfl) (by kernel_rfl) contract
theorem over : Rows.lexNumbersRow.holds Try.pinned (OpenSpec.ofChange Rows.lexNumbersSpec) :=
  OpenClaim.holds_of_wide 8 Try.f8 rfl rfl rfl rfl rfl rfl rfl ⟨rfl, rfl, rfl, rfl, rfl⟩ rfl rfl rfl rfl rfl (by kernel_rfl) Try.func8 (by kernel_rfl)
    (of_decide_eq_true (by kernel_rfl)) (by unfold Func.isWrapper; first | (rw [if_pos (by decide +kernel)]; kernel_rfl) | (rw [if_neg (by decide +kernel)]; exact ⟨rfl, rfl⟩))
    (fun os started H enc _ => lifted os started H enc)
theorem proved : Rows.LexNumbersSaid := over
end Go.Proofs.Ytefebdknnedioaa.lexNumbers
namespace Go.Proofs.Ytefebdknnedioaa
theorem lexNumbers_holds : Rows.LexNumbersSaid := lexNumbers.proved
#print axioms lexNumbers_holds
end Go.Proofs.Ytefebdknnedioaa
