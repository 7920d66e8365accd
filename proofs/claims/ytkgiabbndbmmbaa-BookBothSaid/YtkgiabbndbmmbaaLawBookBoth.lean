/- The statement BookBoth is proved: the law returns true, and does not panic, for every input; no conditions. -/
import Derived.Test.YtkgiabbndbmmbaaZ33
import Derived.Test.YtkgiabbndbmmbaaRows
import Derived.WalkKit
import Derived.ProofKit
import Derived.OpenShut
import Derived.JoinedOf
set_option linter.unusedVariables false
set_option linter.unusedSimpArgs false
set_option linter.unusedSectionVars false
namespace Go.Proofs.Ytkgiabbndbmmbaa.bookBoth
open Go.Den Go.ChangeShapes Go.WideShapes Go.ChangeAt Go.RowKit
set_option maxRecDepth 100000
theorem own : ownKnob Try.prog.godebug = none := by kernel_rfl
theorem laidOut : laidOutB Try.prog = true := by kernel_rfl
theorem contract : ∀ rows, Fits Try.prog [22] rows → Contract Try.prog 5 (argsA Try.prog [22] rows) [] ⟨false, .B true, []⟩ := by
  intro rows h
  match rows, h with
  | [r0], h =>
    have e : argsA Try.prog [22] [r0] = [.sl (Row.N r0 0) [.i .i64, .s, .s, .s, .sl [.b, .i .i64, .s], .sl [.s, .s, .s, .sl [.b, .i .i64, .s]]] (Row.R r0 0) .no] := by kernel_rfl
    rw [e]
    obtain ⟨⟨ks0, hk0, ho0, hf0⟩, h⟩ := h
    obtain rfl : ks0 = [.sl [.i .i64, .s, .s, .s, .sl [.b, .i .i64, .s], .sl [.s, .s, .s, .sl [.b, .i .i64, .s]]]] := Option.some.inj (hk0.symm.trans (by kernel_rfl))
    obtain ⟨n, hn⟩ := z20_pure (Row.N r0 0) (Row.R r0 0) (fine_sl (j := 0) ho0 hf0 rfl)
    exact z20_c n (Row.N r0 0) (Row.R r0 0) _ hn
  | [], h => exact h.elim
  | _ :: _ :: _, h => exact h.2.elim
theorem lifted (os : Os) (started : os.Started) (H : Type) (enc : TypeId × Value → H) :
    ReturnsInHanded {} Try.checked os 5 .any (Rows.bookBothSpec.pre6 enc Try.prog Try.f5 Rows.bookBothRow.domain false) (Rows.bookBothSpec.post enc Try.prog Try.f5 false true false false) :=
  lifted_of (C := Try.checked) started own (by kernel_rfl) Try.func5
    (ChangeSpec.witness6 (enc := enc) (C := Try.checked) false ⟨#[], #[.slice none 0 0], []⟩ 8 (by kernel_rfl) (by kernel_rfl) (by kernel_rfl) (by kernel_rfl))
    laidOut (ts := [22]) (by kernel_rfl) (by kernel_rfl) rfl (fun ds h => by
      match ds, h with
      | [a], _ => rfl) (rt := 4) (by kernel_rfl) (by kernel_rfl) contract (by kernel_rfl)
theorem over : Rows.bookBothRow.holds Try.pinned (OpenSpec.ofChange Rows.bookBothSpec) :=
  OpenClaim.holds_of_wide 5 Try.f5 rfl rfl rfl rfl rfl rfl rfl ⟨rfl, rfl, rfl, rfl, rfl⟩ rfl rfl rfl rfl rfl (by kernel_rfl) Try.func5 (by kernel_rfl)
    (of_decide_eq_true (by kernel_rfl)) (by unfold Func.isWrapper; first | (rw [if_pos (by decide +kernel)]; kernel_rfl) | (rw [if_neg (by decide +kernel)]; exact ⟨rfl, rfl⟩))
    (fun os started H enc _ => lifted os started H enc)
theorem proved : Rows.BookBothSaid := over
end Go.Proofs.Ytkgiabbndbmmbaa.bookBoth
namespace Go.Proofs.Ytkgiabbndbmmbaa
theorem bookBoth_holds : Rows.BookBothSaid := bookBoth.proved
#print axioms bookBoth_holds
end Go.Proofs.Ytkgiabbndbmmbaa
