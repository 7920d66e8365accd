/- The statement CheckTexts is proved: the law returns true, and does not panic, for every input; no conditions. -/
import Derived.Test.YtlpnccpagikioaaGreatDoorZ41
import Derived.Test.YtlpnccpagikioaaGreatDoorZ03
import Derived.Test.YtlpnccpagikioaaGreatDoorRows
import Derived.Test.YtlpnccpagikioaaGreatDoorCards
import Derived.Test.YtlpnccpagikioaaGreatDoorTie
import Derived.SevenTiedAt
import Derived.WalkKit
import Derived.ProofKit
import Derived.OpenShut
import Derived.JoinedOf
set_option linter.unusedVariables false
set_option linter.unusedSimpArgs false
set_option linter.unusedSectionVars false
namespace Go.Proofs.YtlpnccpagikioaaGreatDoor.checkTexts
open Go.Den Go.ChangeShapes Go.WideShapes Go.ChangeAt Go.RowKit
set_option maxRecDepth 100000
theorem own : ownKnob Tryz.prog.godebug = none := by kernel_rfl
theorem laidOut : laidOutB Tryz.prog = true := by kernel_rfl
theorem contract : ∀ rows, Fits Tryz.prog [9] rows → Contract Tryz.prog 4 (argsA Tryz.prog [9] rows) [] ⟨false, .B true, []⟩ := by
  intro rows h
  match rows, h with
  | [r0], h =>
    have e : argsA Tryz.prog [9] [r0] = [.S (Row.S r0 0)] := by kernel_rfl
    rw [e]
    obtain ⟨⟨ks0, hk0, ho0, hf0⟩, h⟩ := h
    obtain rfl : ks0 = [.s] := Option.some.inj (hk0.symm.trans (by kernel_rfl))
    obtain ⟨n, hn⟩ := law10_CheckTexts_pure (Row.S r0 0) (fine_S (j := 0) hf0)
    exact law10_CheckTexts_c n (Row.S r0 0) _ hn
  | [], h => exact h.elim
  | _ :: _ :: _, h => exact h.2.elim
theorem door_met (os : Os) (args : Array Value) : laidMetH Tryz.prog Rows.checkTextsRow.laid ((World.doorLaid Tryz.prog 400 os).forCall (fun _ _ => 0) ⟨#[], args, []⟩).memory :=
  laidMetH_of_parts3 (fuel := 8) (laidMet_of_run' 8 (by kernel_rfl) (by kernel_rfl)) (by kernel_rfl) (by kernel_rfl)
theorem table (W : World) (h : laidMetH Tryz.prog Rows.checkTextsRow.laid W) : ∃ ty fr, W.heap[0]? = some (.cells (Go.Lib.pow10Tab.map (Value.int .u64)).toArray ty fr) := by
  rw [MakeChecks.laidMetH_plain _ _ _ (by kernel_rfl)] at h
  have h3 := laidMet.tail (laidMet.tail h)
  exact glob_of_tab (by kernel_rfl) (Go.Lib.tabIs_of_head (k := .u64) (zs := Go.Lib.pow10Tab) (g := 0) (n := 20) (e := 128) (by kernel_rfl) rfl (by kernel_rfl) (by kernel_rfl) (by kernel_rfl) (by kernel_rfl) h3)
theorem lifted (os : Os) (started : os.Started) (H : Type) (enc : TypeId × Value → H) :
    ReturnsInHanded {} Tryz.checked os 4 .any (fun w args => (Rows.checkTextsSpec.pre enc Tryz.prog Tryz.f4 [] false w args ∧ laidMetH Tryz.prog Rows.checkTextsRow.laid w) ∧ sizedMet enc Tryz.prog Tryz.f4 (OpenSpec.ofChange Rows.checkTextsSpec) false w args)
      (Rows.checkTextsSpec.post enc Tryz.prog Tryz.f4 false true false false) :=
  lifted_of_laid (C := Tryz.checked) started own (by kernel_rfl) Tryz.func4
    (ChangeSpec.witness_shaped (enc := enc) (C := Tryz.checked) (os := os) (X := fun w _ => laidMetH Tryz.prog Rows.checkTextsRow.laid w) false (World.doorLaid Tryz.prog 400 os) #[.string ByteArray.empty] 8 rfl (World.shaped_of_RefB (by kernel_rfl) (by kernel_rfl)) (by kernel_rfl) (by kernel_rfl) (by kernel_rfl) (door_met os _))
    laidOut (ts := [9]) (by kernel_rfl) (by kernel_rfl) rfl (fun ds h => by
      match ds, h with
      | [a], _ => rfl) (rt := 4) (by kernel_rfl) (by kernel_rfl) contract (by kernel_rfl) table
theorem over : Rows.checkTextsRow.holds Tryz.pinned (OpenSpec.ofChange Rows.checkTextsSpec) :=
  OpenClaim.holds_of_wide 4 Tryz.f4 rfl rfl rfl rfl rfl rfl rfl ⟨rfl, rfl, rfl, rfl, rfl⟩ rfl rfl rfl rfl rfl (by kernel_rfl) Tryz.func4 (by kernel_rfl)
    (of_decide_eq_true (by kernel_rfl)) (by unfold Func.isWrapper; first | (rw [if_pos (by decide +kernel)]; kernel_rfl) | (rw [if_neg (by decide +kernel)]; exact ⟨rfl, rfl⟩))
    (fun os started H enc _ => lifted os started H enc)
theorem proved : Rows.CheckTextsCardSaid :=
  Claim7.holds_tied_plain_at .later [] [.data, .data, .data] true (true, "06e2a7e48edca535e5aecbdfe152e1d6ec1cce99853840d329b39c8e7d97c46a") true
    over (fun _ h => by cases h) (by kernel_rfl) (fun _ h => by cases h) checkTexts_row_tie rfl ⟨rfl, rfl⟩ (by kernel_rfl) rfl
    (fun f fn hf hfn => by
      obtain rfl : f = 4 := Option.some.inj ((show Tryz.prog.funcNamed Rows.checkTextsRow.func = some 4 by kernel_rfl).symm.trans hf) |>.symm
      obtain rfl : fn = Tryz.f4 := (Option.some.inj (Tryz.func4.symm.trans hfn)).symm
      refine ⟨by kernel_rfl, fun j t ht => ?_⟩
      have hp : Tryz.f4.params = #[9] := by kernel_rfl
      rw [hp] at ht
      have hm : t ∈ [9] := by
        have := Array.mem_of_getElem? ht
        simpa using this
      simp only [List.mem_cons, List.not_mem_nil, or_false] at hm
      rcases hm with rfl <;> first | exact (show Tryz.prog.wantsStandIn 9 = false by kernel_rfl))
    (by kernel_rfl)
end Go.Proofs.YtlpnccpagikioaaGreatDoor.checkTexts
namespace Go.Proofs.YtlpnccpagikioaaGreatDoor
theorem checkTextsCard_holds : Rows.CheckTextsCardSaid := checkTexts.proved
#print axioms checkTextsCard_holds
end Go.Proofs.YtlpnccpagikioaaGreatDoor
