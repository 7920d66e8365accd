/- The statement BookFounds is proved: the law returns true, and does not panic, for every input; no conditions. -/
import Derived.Test.YtkgiabbndbmmbaaZ32
import Derived.Test.YtkgiabbndbmmbaaRows
import Derived.WalkKit
import Derived.ProofKit
import Derived.OpenShut
import Derived.JoinedOf
set_option linter.unusedVariables false
set_option linter.unusedSimpArgs false
set_option linter.unusedSectionVars false
namespace Go.Proofs.Ytkgiabbndbmmbaa.bookFounds
open Go.Den Go.ChangeShapes Go.WideShapes Go.ChangeAt Go.RowKit
set_option maxRecDepth 100000
theorem own : ownKnob Try.prog.godebug = none := by kernel_rfl
theorem laidOut : laidOutB Try.prog = true := by kernel_rfl
theorem contract : ∀ rows, Fits Try.prog [22, 23] rows → Contract Try.prog 3 (argsA Try.prog [22, 23] rows) [] ⟨false, .B true, []⟩ := by
  intro rows h
  match rows, h with
  | [r0, r1], h =>
    have e : argsA Try.prog [22, 23] [r0, r1] = [.sl (Row.N r0 0) [.i .i64, .s, .s, .s, .sl [.b, .i .i64, .s], .sl [.s, .s, .s, .sl [.b, .i .i64, .s]]] (Row.R r0 0) .no, .sl (Row.N r1 0) [.s, .s, .s, .sl [.b, .i .i64, .s]] (Row.R r1 0) .no] := by kernel_rfl
    rw [e]
    obtain ⟨⟨ks0, hk0, ho0, hf0⟩, h⟩ := h
    obtain rfl : ks0 = [.sl [.i .i64, .s, .s, .s, .sl [.b, .i .i64, .s], .sl [.s, .s, .s, .sl [.b, .i .i64, .s]]]] := Option.some.inj (hk0.symm.trans (by kernel_rfl))
    obtain ⟨⟨ks1, hk1, ho1, hf1⟩, h⟩ := h
    obtain rfl : ks1 = [.sl [.s, .s, .s, .sl [.b, .i .i64, .s]]] := Option.some.inj (hk1.symm.trans (by kernel_rfl))
    obtain ⟨n, hn⟩ := z16_pure (Row.N r0 0) (Row.R r0 0) (Row.N r1 0) (Row.R r1 0) (fine_sl (j := 0) ho0 hf0 rfl) (fine_sl (j := 0) ho1 hf1 rfl)
    exact z16_c n (Row.N r0 0) (Row.R r0 0) (Row.N r1 0) (Row.R r1 0) _ hn
  | [], h => exact h.elim
  | [_], h => exact h.2.elim
  | _ :: _ :: _ :: _, h => exact h.2.2.elim
theorem lifted (os : Os) (started : os.Started) (H : Type) (enc : TypeId × Value → H) :
    ReturnsInHanded {} Try.checked os 3 .any (Rows.bookFoundsSpec.pre6 enc Try.prog Try.f3 Rows.bookFoundsRow.domain false) (Rows.bookFoundsSpec.post enc Try.prog Try.f3 false true false false) :=
  lifted_of (C := Try.checked) started own (by kernel_rfl) Try.func3
    (ChangeSpec.witness6 (enc := enc) (C := Try.checked) false ⟨#[], #[.slice none 0 0, .slice none 0 0], []⟩ 8 (by kernel_rfl) (by kernel_rfl) (by kernel_rfl) (by kernel_rfl))
    laidOut (ts := [22, 23]) (by kernel_rfl) (by kernel_rfl) rfl (fun ds h => by
      match ds, h with
      | [a, b], _ => rfl) (rt := 4) (by kernel_rfl) (by kernel_rfl) contract (by kernel_rfl)
theorem over : Rows.bookFoundsRow.holds Try.pinned (OpenSpec.ofChange Rows.bookFoundsSpec) :=
  OpenClaim.holds_of_wide 3 Try.f3 rfl rfl rfl rfl rfl rfl rfl ⟨rfl, rfl, rfl, rfl, rfl⟩ rfl rfl rfl rfl rfl (by kernel_rfl) Try.func3 (by kernel_rfl)
    (of_decide_eq_true (by kernel_rfl)) (by unfold Func.isWrapper; first | (rw [if_pos (by decide +kernel)]; kernel_rfl) | (rw [if_neg (by decide +kernel)]; exact ⟨rfl, rfl⟩))
    (fun os started H enc _ => lifted os started H enc)
theorem proved : Rows.BookFoundsSaid := over
end Go.Proofs.Ytkgiabbndbmmbaa.bookFounds
namespace Go.Proofs.Ytkgiabbndbmmbaa
theorem bookFounds_holds : Rows.BookFoundsSaid := bookFounds.proved
#print axioms bookFounds_holds
end Go.Proofs.Ytkgiabbndbmmbaa
