/- The statement CheckVars is proved: the law returns true, and does not panic, for every input; no conditions. -/
import Derived.Test.YtlpnccpagikioaaDoorZ30
import Derived.Test.YtlpnccpagikioaaDoorZ03
import Derived.Test.YtlpnccpagikioaaDoorRows
import Derived.Test.YtlpnccpagikioaaDoorCards
import Derived.Test.YtlpnccpagikioaaDoorTie
import Derived.SevenTiedAt
import Derived.WalkKit
import Derived.ProofKit
import Derived.OpenShut
import Derived.JoinedOf
set_option linter.unusedVariables false
set_option linter.unusedSimpArgs false
set_option linter.unusedSectionVars false
namespace Go.Proofs.YtlpnccpagikioaaDoor.checkVars
open Go.Den Go.ChangeShapes Go.WideShapes Go.ChangeAt Go.RowKit
set_option maxRecDepth 100000
theorem own : ownKnob Tryd.prog.godebug = none := by kernel_rfl
theorem laidOut : laidOutB Tryd.prog = true := by kernel_rfl
theorem contract : ∀ rows, Fits Tryd.prog [35, 3] rows → Contract Tryd.prog 8 (argsA Tryd.prog [35, 3] rows) [] ⟨false, .B true, []⟩ := by
  intro rows h
  match rows, h with
  | [r0, r1], h =>
    have e : argsA Tryd.prog [35, 3] [r0, r1] = [.agg [.S (Row.S r0 0), .B (Row.B r0 1), .I .i64 (Row.I r0 2), .S (Row.S r0 3), .S (Row.S r0 4), .sl (Row.N r0 5) [.s, .b, .i .i64, .s] (Row.R r0 5) .no, .S (Row.S r0 6), .B (Row.B r0 7), .I .i64 (Row.I r0 8), .S (Row.S r0 9), .sl (Row.N r0 10) [.s, .b, .i .i64, .s, .s, .sl [.s, .b, .i .i64, .s], .s, .b, .i .i64, .s] (Row.R r0 10) .no], .I .i64 (Row.I r1 0)] := by kernel_rfl
    rw [e]
    obtain ⟨⟨ks0, hk0, ho0, hf0⟩, h⟩ := h
    obtain rfl : ks0 = [.s, .b, .i .i64, .s, .s, .sl [.s, .b, .i .i64, .s], .s, .b, .i .i64, .s, .sl [.s, .b, .i .i64, .s, .s, .sl [.s, .b, .i .i64, .s], .s, .b, .i .i64, .s]] := Option.some.inj (hk0.symm.trans (by kernel_rfl))
    obtain ⟨⟨ks1, hk1, ho1, hf1⟩, h⟩ := h
    obtain rfl : ks1 = [.i .i64] := Option.some.inj (hk1.symm.trans (by kernel_rfl))
    obtain ⟨n, hn⟩ := law10_CheckVars_pure (Row.S r0 0) (Row.B r0 1) (Row.I r0 2) (Row.S r0 3) (Row.S r0 4) (Row.N r0 5) (Row.R r0 5) (Row.S r0 6) (Row.B r0 7) (Row.I r0 8) (Row.S r0 9) (Row.N r0 10) (Row.R r0 10) (Row.I r1 0) (fine_S (j := 0) hf0) (fine_I (j := 2) ho0 hf0 rfl) (fine_S (j := 3) hf0) (fine_S (j := 4) hf0) (fine_sl (j := 5) ho0 hf0 rfl) (fine_S (j := 6) hf0) (fine_I (j := 8) ho0 hf0 rfl) (fine_S (j := 9) hf0) (fine_sl (j := 10) ho0 hf0 rfl) (fine_I (j := 0) ho1 hf1 rfl)
    exact law10_CheckVars_c n (Row.S r0 0) (Row.B r0 1) (Row.I r0 2) (Row.S r0 3) (Row.S r0 4) (Row.N r0 5) (Row.R r0 5) (Row.S r0 6) (Row.B r0 7) (Row.I r0 8) (Row.S r0 9) (Row.N r0 10) (Row.R r0 10) (Row.I r1 0) _ hn
  | [], h => exact h.elim
  | [_], h => exact h.2.elim
  | _ :: _ :: _ :: _, h => exact h.2.2.elim
theorem door_met (os : Os) (args : Array Value) : laidMetH Tryd.prog Rows.checkVarsRow.laid ((World.doorLaid Tryd.prog 400 os).forCall (fun _ _ => 0) ⟨#[], args, []⟩).memory :=
  laidMetH_of_parts3 (fuel := 8) (laidMet_of_run' 8 (by kernel_rfl) (by kernel_rfl)) (by kernel_rfl) (by kernel_rfl)
theorem table (W : World) (h : laidMetH Tryd.prog Rows.checkVarsRow.laid W) : ∃ ty fr, W.heap[0]? = some (.cells (Go.Lib.pow10Tab.map (Value.int .u64)).toArray ty fr) := by
  rw [MakeChecks.laidMetH_plain _ _ _ (by kernel_rfl)] at h
  have h3 := laidMet.tail (laidMet.tail h)
  exact glob_of_tab (by kernel_rfl) (Go.Lib.tabIs_of_head (k := .u64) (zs := Go.Lib.pow10Tab) (g := 0) (n := 20) (e := 131) (by kernel_rfl) rfl (by kernel_rfl) (by kernel_rfl) (by kernel_rfl) (by kernel_rfl) h3)
theorem lifted (os : Os) (started : os.Started) (H : Type) (enc : TypeId × Value → H) :
    ReturnsInHanded {} Tryd.checked os 8 .any (fun w args => (Rows.checkVarsSpec.pre enc Tryd.prog Tryd.f8 [] false w args ∧ laidMetH Tryd.prog Rows.checkVarsRow.laid w) ∧ sizedMet enc Tryd.prog Tryd.f8 (OpenSpec.ofChange Rows.checkVarsSpec) false w args)
      (Rows.checkVarsSpec.post enc Tryd.prog Tryd.f8 false true false false) :=
  lifted_of_laid (C := Tryd.checked) started own (by kernel_rfl) Tryd.func8
    (ChangeSpec.witness_shaped (enc := enc) (C := Tryd.checked) (os := os) (X := fun w _ => laidMetH Tryd.prog Rows.checkVarsRow.laid w) false (World.doorLaid Tryd.prog 400 os) #[.agg #[.string ByteArray.empty, .bool false, .int .i64 0, .string ByteArray.empty, .string ByteArray.empty, .slice none 0 0, .string ByteArray.empty, .bool false, .int .i64 0, .string ByteArray.empty, .slice none 0 0], .int .i64 0] 8 rfl (World.shaped_of_RefB (by kernel_rfl) (by kernel_rfl)) (by kernel_rfl) (by kernel_rfl) (by kernel_rfl) (door_met os _))
    laidOut (ts := [35, 3]) (by kernel_rfl) (by kernel_rfl) rfl (fun ds h => by
      match ds, h with
      | [a, b], _ => rfl) (rt := 4) (by kernel_rfl) (by kernel_rfl) contract (by kernel_rfl) table
theorem over : Rows.checkVarsRow.holds Tryd.pinned (OpenSpec.ofChange Rows.checkVarsSpec) :=
  OpenClaim.holds_of_wide 8 Tryd.f8 rfl rfl rfl rfl rfl rfl rfl ⟨rfl, rfl, rfl, rfl, rfl⟩ rfl rfl rfl rfl rfl (by kernel_rfl) Tryd.func8 (by kernel_rfl)
    (of_decide_eq_true (by kernel_rfl)) (by unfold Func.isWrapper; first | (rw [if_pos (by decide +kernel)]; kernel_rfl) | (rw [if_neg (by decide +kernel)]; exact ⟨rfl, rfl⟩))
    (fun os started H enc _ => lifted os started H enc)
theorem proved : Rows.CheckVarsCardSaid :=
  Claim7.holds_tied_plain_at .later [] [.data, .data, .data] true (true, "f952174a73a2350e8ca471c6dc90b4bf5810e390e6b385c6378f1dc1b0e6c72e") true
    over (fun _ h => by cases h) (by kernel_rfl) (fun _ h => by cases h) checkVars_row_tie rfl ⟨rfl, rfl⟩ (by kernel_rfl) rfl
    (fun f fn hf hfn => by
      obtain rfl : f = 8 := Option.some.inj ((show Tryd.prog.funcNamed Rows.checkVarsRow.func = some 8 by kernel_rfl).symm.trans hf) |>.symm
      obtain rfl : fn = Tryd.f8 := (Option.some.inj (Tryd.func8.symm.trans hfn)).symm
      refine ⟨by kernel_rfl, fun j t ht => ?_⟩
      have hp : Tryd.f8.params = #[35, 3] := by kernel_rfl
      rw [hp] at ht
      have hm : t ∈ [35, 3] := by
        have := Array.mem_of_getElem? ht
        simpa using this
      simp only [List.mem_cons, List.not_mem_nil, or_false] at hm
      rcases hm with rfl | rfl <;> first | exact (show Tryd.prog.wantsStandIn 3 = false by kernel_rfl) | exact (show Tryd.prog.wantsStandIn 35 = false by kernel_rfl))
    (by kernel_rfl)
end Go.Proofs.YtlpnccpagikioaaDoor.checkVars
namespace Go.Proofs.YtlpnccpagikioaaDoor
theorem checkVarsCard_holds : Rows.CheckVarsCardSaid := checkVars.proved
#print axioms checkVarsCard_holds
end Go.Proofs.YtlpnccpagikioaaDoor
