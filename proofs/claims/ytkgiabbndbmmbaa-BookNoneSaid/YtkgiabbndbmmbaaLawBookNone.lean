/- The statement BookNone is proved: the law returns true, and does not panic, for every input; no conditions. -/
import Derived.Test.YtkgiabbndbmmbaaZ32
import Derived.Test.YtkgiabbndbmmbaaRows
import Derived.WalkKit
import Derived.ProofKit
import Derived.OpenShut
import Derived.JoinedOf
set_option linter.unusedVariables false
set_option linter.unusedSimpArgs false
set_option linter.unusedSectionVars false
namespace Go.Proofs.Ytkgiabbndbmmbaa.bookNone
open Go.Den Go.ChangeShapes Go.WideShapes Go.ChangeAt Go.RowKit
set_option maxRecDepth 100000
theorem own : ownKnob Try.prog.godebug = none := by kernel_rfl
theorem laidOut : laidOutB Try.prog = true := by kernel_rfl
theorem contract : ∀ rows, Fits Try.prog [42, 38] rows → Contract Try.prog 7 (argsA Try.prog [42, 38] rows) [] ⟨false, .B true, []⟩ := by
  intro rows h
  match rows, h with
  | [r0, r1], h =>
    have e : argsA Try.prog [42, 38] [r0, r1] = [.agg [.I .i64 (Row.I r0 0), .S (Row.S r0 1), .S (Row.S r0 2), .S (Row.S r0 3), .sl (Row.N r0 4) [.b, .i .i64, .s] (Row.R r0 4) .no, .sl (Row.N r0 5) [.s, .s, .s, .sl [.b, .i .i64, .s]] (Row.R r0 5) .no], .agg [.S (Row.S r1 0), .S (Row.S r1 1), .S (Row.S r1 2), .sl (Row.N r1 3) [.b, .i .i64, .s] (Row.R r1 3) .no]] := by kernel_rfl
    rw [e]
    obtain ⟨⟨ks0, hk0, ho0, hf0⟩, h⟩ := h
    obtain rfl : ks0 = [.i .i64, .s, .s, .s, .sl [.b, .i .i64, .s], .sl [.s, .s, .s, .sl [.b, .i .i64, .s]]] := Option.some.inj (hk0.symm.trans (by kernel_rfl))
    obtain ⟨⟨ks1, hk1, ho1, hf1⟩, h⟩ := h
    obtain rfl : ks1 = [.s, .s, .s, .sl [.b, .i .i64, .s]] := Option.some.inj (hk1.symm.trans (by kernel_rfl))
    obtain ⟨n, hn⟩ := z33_pure (Row.I r0 0) (Row.S r0 1) (Row.S r0 2) (Row.S r0 3) (Row.N r0 4) (Row.R r0 4) (Row.N r0 5) (Row.R r0 5) (Row.S r1 0) (Row.S r1 1) (Row.S r1 2) (Row.N r1 3) (Row.R r1 3) (fine_I (j := 0) ho0 hf0 rfl) (fine_S (j := 1) hf0) (fine_S (j := 2) hf0) (fine_S (j := 3) hf0) (fine_sl (j := 4) ho0 hf0 rfl) (fine_sl (j := 5) ho0 hf0 rfl) (fine_S (j := 0) hf1) (fine_S (j := 1) hf1) (fine_S (j := 2) hf1) (fine_sl (j := 3) ho1 hf1 rfl)
    exact z33_c n (Row.I r0 0) (Row.S r0 1) (Row.S r0 2) (Row.S r0 3) (Row.N r0 4) (Row.R r0 4) (Row.N r0 5) (Row.R r0 5) (Row.S r1 0) (Row.S r1 1) (Row.S r1 2) (Row.N r1 3) (Row.R r1 3) _ hn
  | [], h => exact h.elim
  | [_], h => exact h.2.elim
  | _ :: _ :: _ :: _, h => exact h.2.2.elim
theorem lifted (os : Os) (started : os.Started) (H : Type) (enc : TypeId × Value → H) :
    ReturnsInHanded {} Try.checked os 7 .any (Rows.bookNoneSpec.pre6 enc Try.prog Try.f7 Rows.bookNoneRow.domain false) (Rows.bookNoneSpec.post enc Try.prog Try.f7 false true false false) :=
  lifted_of (C := Try.checked) started own (by kernel_rfl) Try.func7
    (ChangeSpec.witness6 (enc := enc) (C := Try.checked) false ⟨#[], #[.agg #[.int .i64 0, .string ByteArray.empty, .string ByteArray.empty, .string ByteArray.empty, .slice none 0 0, .slice none 0 0], .agg #[.string ByteArray.empty, .string ByteArray.empty, .string ByteArray.empty, .slice none 0 0]], []⟩ 8 (by kernel_rfl) (by kernel_rfl) (by kernel_rfl) (by kernel_rfl))
    laidOut (ts := [42, 38]) (by kernel_rfl) (by kernel_rfl) rfl (fun ds h => by
      match ds, h with
      | [a, b], _ => rfl) (rt := 4) (by kernel_rfl) (by kernel_rfl) contract (by kernel_rfl)
theorem over : Rows.bookNoneRow.holds Try.pinned (OpenSpec.ofChange Rows.bookNoneSpec) :=
  OpenClaim.holds_of_wide 7 Try.f7 rfl rfl rfl rfl rfl rfl rfl ⟨rfl, rfl, rfl, rfl, rfl⟩ rfl rfl rfl rfl rfl (by kernel_rfl) Try.func7 (by kernel_rfl)
    (of_decide_eq_true (by kernel_rfl)) (by unfold Func.isWrapper; first | (rw [if_pos (by decide +kernel)]; kernel_rfl) | (rw [if_neg (by decide +kernel)]; exact ⟨rfl, rfl⟩))
    (fun os started H enc _ => lifted os started H enc)
theorem proved : Rows.BookNoneSaid := over
end Go.Proofs.Ytkgiabbndbmmbaa.bookNone
namespace Go.Proofs.Ytkgiabbndbmmbaa
theorem bookNone_holds : Rows.BookNoneSaid := bookNone.proved
#print axioms bookNone_holds
end Go.Proofs.Ytkgiabbndbmmbaa
