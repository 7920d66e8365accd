/- The statement ParseBlanks is proved: the law returns true, and does not panic, for every input; no conditions. -/
import Derived.Test.YtefebdknnedioaaPF
import Derived.Test.YtefebdknnedioaaRows
import Derived.WalkKit
import Derived.ProofKit
import Derived.OpenShut
import Derived.JoinedOf
set_option linter.unusedVariables false
set_option linter.unusedSimpArgs false
set_option linter.unusedSectionVars false
namespace Go.Proofs.Ytefebdknnedioaa.parseBlanks
open Go.Den Go.ChangeShapes Go.WideShapes Go.ChangeAt Go.RowKit
set_option maxRecDepth 100000
theorem own : ownKnob Try.prog.godebug = none := by kernel_rfl
theorem laidOut : laidOutB Try.prog = true := by kernel_rfl
theorem contract : ∀ rows, Fits Try.prog [9, 3] rows → Contract Try.prog 11 (argsA Try.prog [9, 3] rows) [] ⟨false, .B true, []⟩ := by
  intro rows h
  match rows, h with
  | [r0, r1], h =>
    have e : argsA Try.prog [9, 3] [r0, r1] = [.S (Row.S r0 0), .I .i64 (Row.I r1 0)] := by kernel_rfl
    rw [e]
    obtain ⟨⟨ks0, hk0, ho0, hf0⟩, h⟩ := h
    obtain rfl : ks0 = [.s] := Option.some.inj (hk0.symm.trans (by kernel_rfl))
    obtain ⟨⟨ks1, hk1, ho1, hf1⟩, h⟩ := h
    obtain rfl : ks1 = [.i .i64] := Option.some.inj (hk1.symm.trans (by kernel_rfl))
    obtain ⟨n, hn⟩ := law08_ParseBlanks_pure (Row.S r0 0) (Row.I r1 0) (fine_S (j := 0) hf0) (fine_I (j := 0) ho1 hf1 rfl)
    exact law08_ParseBlanks_c n (Row.S r0 0) (Row.I r1 0) _ hn
  | [], h => exact h.elim
  | [_], h => exact h.2.elim
  | _ :: _ :: _ :: _, h => exact h.2.2.elim
theorem lifted (os : Os) (started : os.Started) (H : Type) (enc : TypeId × Value → H) :
    ReturnsInHanded {} Try.checked os 11 .any (Rows.parseBlanksSpec.pre6 enc Try.prog Try.f11 Rows.parseBlanksRow.domain false) (Rows.parseBlanksSpec.post enc Try.prog Try.f11 false true false false) :=
  lifted_of (C := Try.checked) started own (by kernel_rfl) Try.func11
    (ChangeSpec.witness6 (enc := enc) (C := Try.checked) false ⟨#[], #[.string ByteArray.empty, .int .i64 0], []⟩ 8 (by kernel_rfl) (by kernel_rfl) (by kernel_rfl) (by kernel_rfl))
    laidOut (ts := [9, 3]) (by kernel_rfl) (by kernel_rfl) rfl (fun ds h => by
      match ds, h with
      | [a, b], _ => rfl) (rt := 4) (by kernel_rfl) (by kernel_rfl) contract
theorem over : Rows.parseBlanksRow.holds Try.pinned (OpenSpec.ofChange Rows.parseBlanksSpec) :=
  OpenClaim.holds_of_wide 11 Try.f11 rfl rfl rfl rfl rfl rfl rfl ⟨rfl, rfl, rfl, rfl, rfl⟩ rfl rfl rfl rfl rfl (by kernel_rfl) Try.func11 (by kernel_rfl)
    (of_decide_eq_true (by kernel_rfl)) (by unfold Func.isWrapper; first | (rw [if_pos (by decide +kernel)]; kernel_rfl) | (rw [if_neg (by decide +kernel)]; exact ⟨rfl, rfl⟩))
    (fun os started H enc _ => lifted os started H enc)
theorem proved : Rows.ParseBlanksSaid := over
end Go.Proofs.Ytefebdknnedioaa.parseBlanks
namespace Go.Proofs.Ytefebdknnedioaa
theorem parseBlanks_holds : Rows.ParseBlanksSaid := parseBlanks.proved
#print axioms parseBlanks_holds
end Go.Proofs.Ytefebdknnedioaa
