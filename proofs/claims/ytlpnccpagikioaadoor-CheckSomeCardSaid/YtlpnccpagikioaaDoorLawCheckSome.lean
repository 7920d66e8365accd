/- The statement CheckSome is proved: the law returns true, and does not panic, for every input; no conditions. -/
import Derived.Test.YtlpnccpagikioaaDoorZ32
import Derived.Test.YtlpnccpagikioaaDoorZ03
import Derived.Test.YtlpnccpagikioaaDoorRows
import Derived.Test.YtlpnccpagikioaaDoorCards
import Derived.Test.YtlpnccpagikioaaDoorTie
import Derived.SevenTiedAt
import Derived.WalkKit
import Derived.ProofKit
import Derived.OpenShut
import Derived.JoinedOf
set_option linter.unusedVariables false
set_option linter.unusedSimpArgs false
set_option linter.unusedSectionVars false
namespace Go.Proofs.YtlpnccpagikioaaDoor.checkSome
open Go.Den Go.ChangeShapes Go.WideShapes Go.ChangeAt Go.RowKit
set_option maxRecDepth 100000
theorem own : ownKnob Tryd.prog.godebug = none := by kernel_rfl
theorem laidOut : laidOutB Tryd.prog = true := by kernel_rfl
theorem contract : ∀ rows, Fits Tryd.prog [37, 54] rows → Contract Tryd.prog 9 (argsA Tryd.prog [37, 54] rows) [] ⟨false, .B true, []⟩ := by
  intro rows h
  match rows, h with
  | [r0, r1], h =>
    have e : argsA Tryd.prog [37, 54] [r0, r1] = [.sl (Row.N r0 0) [.s, .b, .i .i64, .s, .s, .sl [.s, .b, .i .i64, .s], .s, .b, .i .i64, .s, .sl [.s, .b, .i .i64, .s, .s, .sl [.s, .b, .i .i64, .s], .s, .b, .i .i64, .s]] (Row.R r0 0) .no, .I .u64 (Row.I r1 0)] := by kernel_rfl
    rw [e]
    obtain ⟨⟨ks0, hk0, ho0, hf0⟩, h⟩ := h
    obtain rfl : ks0 = [.sl [.s, .b, .i .i64, .s, .s, .sl [.s, .b, .i .i64, .s], .s, .b, .i .i64, .s, .sl [.s, .b, .i .i64, .s, .s, .sl [.s, .b, .i .i64, .s], .s, .b, .i .i64, .s]]] := Option.some.inj (hk0.symm.trans (by kernel_rfl))
    obtain ⟨⟨ks1, hk1, ho1, hf1⟩, h⟩ := h
    obtain rfl : ks1 = [.i .u64] := Option.some.inj (hk1.symm.trans (by kernel_rfl))
    obtain ⟨n, hn⟩ := law10_CheckSome_pure (Row.N r0 0) (Row.R r0 0) (Row.I r1 0) (fine_sl (j := 0) ho0 hf0 rfl) (fine_I (j := 0) ho1 hf1 rfl)
    exact law10_CheckSome_c n (Row.N r0 0) (Row.R r0 0) (Row.I r1 0) _ hn
  | [], h => exact h.elim
  | [_], h => exact h.2.elim
  | _ :: _ :: _ :: _, h => exact h.2.2.elim
theorem door_met (os : Os) (args : Array Value) : laidMetH Tryd.prog Rows.checkSomeRow.laid ((World.doorLaid Tryd.prog 400 os).forCall (fun _ _ => 0) ⟨#[], args, []⟩).memory :=
  laidMetH_of_parts3 (fuel := 8) (laidMet_of_run' 8 (by kernel_rfl) (by kernel_rfl)) (by kernel_rfl) (by kernel_rfl)
theorem table (W : World) (h : laidMetH Tryd.prog Rows.checkSomeRow.laid W) : ∃ ty fr, W.heap[0]? = some (.cells (Go.Lib.pow10Tab.map (Value.int .u64)).toArray ty fr) := by
  rw [MakeChecks.laidMetH_plain _ _ _ (by kernel_rfl)] at h
  have h3 := laidMet.tail (laidMet.tail h)
  exact glob_of_tab (by kernel_rfl) (Go.Lib.tabIs_of_head (k := .u64) (zs := Go.Lib.pow10Tab) (g := 0) (n := 20) (e := 131) (by kernel_rfl) rfl (by kernel_rfl) (by kernel_rfl) (by kernel_rfl) (by kernel_rfl) h3)
theorem lifted (os : Os) (started : os.Started) (H : Type) (enc : TypeId × Value → H) :
    ReturnsInHanded {} Tryd.checked os 9 .any (fun w args => (Rows.checkSomeSpec.pre enc Tryd.prog Tryd.f9 [] false w args ∧ laidMetH Tryd.prog Rows.checkSomeRow.laid w) ∧ sizedMet enc Tryd.prog Tryd.f9 (OpenSpec.ofChange Rows.checkSomeSpec) false w args)
      (Rows.checkSomeSpec.post enc Tryd.prog Tryd.f9 false true false false) :=
  lifted_of_laid (C := Tryd.checked) started own (by kernel_rfl) Tryd.func9
    (ChangeSpec.witness_shaped (enc := enc) (C := Tryd.checked) (os := os) (X := fun w _ => laidMetH Tryd.prog Rows.checkSomeRow.laid w) false (World.doorLaid Tryd.prog 400 os) #[.slice none 0 0, .int .u64 0] 8 rfl (World.shaped_of_RefB (by kernel_rfl) (by kernel_rfl)) (by kernel_rfl) (by kernel_rfl) (by kernel_rfl) (door_met os _))
    laidOut (ts := [37, 54]) (by kernel_rfl) (by kernel_rfl) rfl (fun ds h => by
      match ds, h with
      | [a, b], _ => rfl) (rt := 4) (by kernel_rfl) (by kernel_rfl) contract (by kernel_rfl) table
theorem over : Rows.checkSomeRow.holds Tryd.pinned (OpenSpec.ofChange Rows.checkSomeSpec) :=
  OpenClaim.holds_of_wide 9 Tryd.f9 rfl rfl rfl rfl rfl rfl rfl ⟨rfl, rfl, rfl, rfl, rfl⟩ rfl rfl rfl rfl rfl (by kernel_rfl) Tryd.func9 (by kernel_rfl)
    (of_decide_eq_true (by kernel_rfl)) (by unfold Func.isWrapper; first | (rw [if_pos (by decide +kernel)]; kernel_rfl) | (rw [if_neg (by decide +kernel)]; exact ⟨rfl, rfl⟩))
    (fun os started H enc _ => lifted os started H enc)
theorem proved : Rows.CheckSomeCardSaid :=
  Claim7.holds_tied_plain_at .later [] [.data, .data, .data] true (true, "f952174a73a2350e8ca471c6dc90b4bf5810e390e6b385c6378f1dc1b0e6c72e") true
    over (fun _ h => by cases h) (by kernel_rfl) (fun _ h => by cases h) checkSome_row_tie rfl ⟨rfl, rfl⟩ (by kernel_rfl) rfl
    (fun f fn hf hfn => by
      obtain rfl : f = 9 := Option.some.inj ((show Tryd.prog.funcNamed Rows.checkSomeRow.func = some 9 by kernel_rfl).symm.trans hf) |>.symm
      obtain rfl : fn = Tryd.f9 := (Option.some.inj (Tryd.func9.symm.trans hfn)).symm
      refine ⟨by kernel_rfl, fun j t ht => ?_⟩
      have hp : Tryd.f9.params = #[37, 54] := by kernel_rfl
      rw [hp] at ht
      have hm : t ∈ [37, 54] := by
        have := Array.mem_of_getElem? ht
        simpa using this
      simp only [List.mem_cons, List.not_mem_nil, or_false] at hm
      rcases hm with rfl | rfl <;> first | exact (show Tryd.prog.wantsStandIn 37 = false by kernel_rfl) | exact (show Tryd.prog.wantsStandIn 54 = false by kernel_rfl))
    (by kernel_rfl)
end Go.Proofs.YtlpnccpagikioaaDoor.checkSome
namespace Go.Proofs.YtlpnccpagikioaaDoor
theorem checkSomeCard_holds : Rows.CheckSomeCardSaid := checkSome.proved
#print axioms checkSomeCard_holds
end Go.Proofs.YtlpnccpagikioaaDoor
