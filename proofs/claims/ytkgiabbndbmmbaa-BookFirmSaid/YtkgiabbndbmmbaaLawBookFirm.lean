/- The statement BookFirm is proved: the law returns true, and does not panic, for every input; no conditions. -/
import Derived.Test.YtkgiabbndbmmbaaZ33
import Derived.Test.YtkgiabbndbmmbaaRows
import Derived.WalkKit
import Derived.ProofKit
import Derived.OpenShut
import Derived.JoinedOf
set_option linter.unusedVariables false
set_option linter.unusedSimpArgs false
set_option linter.unusedSectionVars false
namespace Go.Proofs.Ytkgiabbndbmmbaa.bookFirm
open Go.Den Go.ChangeShapes Go.WideShapes Go.ChangeAt Go.RowKit
set_option maxRecDepth 100000
theorem own : ownKnob Try.prog.godebug = none := by kernel_rfl
theorem laidOut : laidOutB Try.prog = true := by kernel_rfl
theorem contract : ∀ rows, Fits Try.prog [22, 23, 3] rows → Contract Try.prog 4 (argsA Try.prog [22, 23, 3] rows) [] ⟨false, .B true, []⟩ := by
  intro rows h
  match rows, h with
  | [r0, r1, r2], h =>
    have e : argsA Try.prog [22, 23, 3] [r0, r1, r2] = [.sl (Row.N r0 0) [.i .i64, .s, .s, .s, .sl [.b, .i .i64, .s], .sl [.s, .s, .s, .sl [.b, .i .i64, .s]]] (Row.R r0 0) .no, .sl (Row.N r1 0) [.s, .s, .s, .sl [.b, .i .i64, .s]] (Row.R r1 0) .no, .I .i64 (Row.I r2 0)] := by kernel_rfl
    rw [e]
    obtain ⟨⟨ks0, hk0, ho0, hf0⟩, h⟩ := h
    obtain rfl : ks0 = [.sl [.i .i64, .s, .s, .s, .sl [.b, .i .i64, .s], .sl [.s, .s, .s, .sl [.b, .i .i64, .s]]]] := Option.some.inj (hk0.symm.trans (by kernel_rfl))
    obtain ⟨⟨ks1, hk1, ho1, hf1⟩, h⟩ := h
    obtain rfl : ks1 = [.sl [.s, .s, .s, .sl [.b, .i .i64, .s]]] := Option.some.inj (hk1.symm.trans (by kernel_rfl))
    obtain ⟨⟨ks2, hk2, ho2, hf2⟩, h⟩ := h
    obtain rfl : ks2 = [.i .i64] := Option.some.inj (hk2.symm.trans (by kernel_rfl))
    obtain ⟨n, hn⟩ := z19_pure (Row.N r0 0) (Row.R r0 0) (Row.N r1 0) (Row.R r1 0) (Row.I r2 0) (fine_sl (j := 0) ho0 hf0 rfl) (fine_sl (j := 0) ho1 hf1 rfl) (fine_I (j := 0) ho2 hf2 rfl)
    exact z19_c n (Row.N r0 0) (Row.R r0 0) (Row.N r1 0) (Row.R r1 0) (Row.I r2 0) _ hn
  | [], h => exact h.elim
  | [_], h => exact h.2.elim
  | [_, _], h => exact h.2.2.elim
  | _ :: _ :: _ :: _ :: _, h => exact h.2.2.2.elim
theorem lifted (os : Os) (started : os.Started) (H : Type) (enc : TypeId × Value → H) :
    ReturnsInHanded {} Try.checked os 4 .any (Rows.bookFirmSpec.pre6 enc Try.prog Try.f4 Rows.bookFirmRow.domain false) (Rows.bookFirmSpec.post enc Try.prog Try.f4 false true false false) :=
  lifted_of (C := Try.checked) started own (by kernel_rfl) Try.func4
    (ChangeSpec.witness6 (enc := enc) (C := Try.checked) false ⟨#[], #[.slice none 0 0, .slice none 0 0, .int .i64 0], []⟩ 8 (by kernel_rfl) (by kernel_rfl) (by kernel_rfl) (by kernel_rfl))
    laidOut (ts := [22, 23, 3]) (by kernel_rfl) (by kernel_rfl) rfl (fun ds h => by
      match ds, h with
      | [a, b, c], _ => rfl) (rt := 4) (by kernel_rfl) (by kernel_rfl) contract (by kernel_rfl)
theorem over : Rows.bookFirmRow.holds Try.pinned (OpenSpec.ofChange Rows.bookFirmSpec) :=
  OpenClaim.holds_of_wide 4 Try.f4 rfl rfl rfl rfl rfl rfl rfl ⟨rfl, rfl, rfl, rfl, rfl⟩ rfl rfl rfl rfl rfl (by kernel_rfl) Try.func4 (by kernel_rfl)
    (of_decide_eq_true (by kernel_rfl)) (by unfold Func.isWrapper; first | (rw [if_pos (by decide +kernel)]; kernel_rfl) | (rw [if_neg (by decide +kernel)]; exact ⟨rfl, rfl⟩))
    (fun os started H enc _ => lifted os started H enc)
theorem proved : Rows.BookFirmSaid := over
end Go.Proofs.Ytkgiabbndbmmbaa.bookFirm
namespace Go.Proofs.Ytkgiabbndbmmbaa
theorem bookFirm_holds : Rows.BookFirmSaid := bookFirm.proved
#print axioms bookFirm_holds
end Go.Proofs.Ytkgiabbndbmmbaa
