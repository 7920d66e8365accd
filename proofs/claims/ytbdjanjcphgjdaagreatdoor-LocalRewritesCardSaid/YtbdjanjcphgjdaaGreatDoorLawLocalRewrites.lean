/- The statement LocalRewrites is proved: the law returns true, and does not panic, for every input; no conditions. -/
import Derived.Test.YtbdjanjcphgjdaaGreatDoorZ37
import Derived.Test.YtbdjanjcphgjdaaGreatDoorZ03
import Derived.Test.YtbdjanjcphgjdaaGreatDoorRows
import Derived.Test.YtbdjanjcphgjdaaGreatDoorCards
import Derived.Test.YtbdjanjcphgjdaaGreatDoorTie
import Derived.SevenTiedAt
import Derived.WalkKit
import Derived.ProofKit
import Derived.OpenShut
import Derived.JoinedOf
set_option linter.unusedVariables false
set_option linter.unusedSimpArgs false
set_option linter.unusedSectionVars false
namespace Go.Proofs.YtbdjanjcphgjdaaGreatDoor.localRewrites
open Go.Den Go.ChangeShapes Go.WideShapes Go.ChangeAt Go.RowKit
set_option maxRecDepth 100000
theorem own : ownKnob Tryz.prog.godebug = none := by kernel_rfl
theorem laidOut : laidOutB Tryz.prog = true := by kernel_rfl
theorem contract : ∀ rows, Fits Tryz.prog [22] rows → Contract Tryz.prog 3 (argsA Tryz.prog [22] rows) [] ⟨false, .B true, []⟩ := by
  intro rows h
  match rows, h with
  | [r0], h =>
    have e : argsA Tryz.prog [22] [r0] = [.sl (Row.N r0 0) [.s, .b, .i .i64, .s, .s, .sl [.s, .b, .i .i64, .s], .s, .b, .i .i64, .s, .sl [.s, .b, .i .i64, .s, .s, .sl [.s, .b, .i .i64, .s], .s, .b, .i .i64, .s]] (Row.R r0 0) .no] := by kernel_rfl
    rw [e]
    obtain ⟨⟨ks0, hk0, ho0, hf0⟩, h⟩ := h
    obtain rfl : ks0 = [.sl [.s, .b, .i .i64, .s, .s, .sl [.s, .b, .i .i64, .s], .s, .b, .i .i64, .s, .sl [.s, .b, .i .i64, .s, .s, .sl [.s, .b, .i .i64, .s], .s, .b, .i .i64, .s]]] := Option.some.inj (hk0.symm.trans (by kernel_rfl))
    obtain ⟨n, hn⟩ := z2_pure (Row.N r0 0) (Row.R r0 0) (fine_sl (j := 0) ho0 hf0 rfl)
    exact z2_c n (Row.N r0 0) (Row.R r0 0) _ hn
  | [], h => exact h.elim
  | _ :: _ :: _, h => exact h.2.elim
theorem door_met (os : Os) (args : Array Value) : laidMetH Tryz.prog Rows.localRewritesRow.laid ((World.doorLaid Tryz.prog 400 os).forCall (fun _ _ => 0) ⟨#[], args, []⟩).memory :=
  laidMetH_of_parts3 (fuel := 8) (laidMet_of_run' 8 (by kernel_rfl) (by kernel_rfl)) (by kernel_rfl) (by kernel_rfl)
theorem table (W : World) (h : laidMetH Tryz.prog Rows.localRewritesRow.laid W) : ∃ ty fr, W.heap[0]? = some (.cells (Go.Lib.pow10Tab.map (Value.int .u64)).toArray ty fr) := by
  rw [MakeChecks.laidMetH_plain _ _ _ (by kernel_rfl)] at h
  have h3 := laidMet.tail (laidMet.tail h)
  exact glob_of_tab (by kernel_rfl) (Go.Lib.tabIs_of_head (k := .u64) (zs := Go.Lib.pow10Tab) (g := 0) (n := 20) (e := 193) (by kernel_rfl) rfl (by kernel_rfl) (by kernel_rfl) (by kernel_rfl) (by kernel_rfl) h3)
theorem lifted (os : Os) (started : os.Started) (H : Type) (enc : TypeId × Value → H) :
    ReturnsInHanded {} Tryz.checked os 3 .any (fun w args => (Rows.localRewritesSpec.pre enc Tryz.prog Tryz.f3 [] false w args ∧ laidMetH Tryz.prog Rows.localRewritesRow.laid w) ∧ sizedMet enc Tryz.prog Tryz.f3 (OpenSpec.ofChange Rows.localRewritesSpec) false w args)
      (Rows.localRewritesSpec.post enc Tryz.prog Tryz.f3 false true false false) :=
  lifted_of_laid (C := Tryz.checked) started own (by kernel_rfl) Tryz.func3
    (ChangeSpec.witness_shaped (enc := enc) (C := Tryz.checked) (os := os) (X := fun w _ => laidMetH Tryz.prog Rows.localRewritesRow.laid w) false (World.doorLaid Tryz.prog 400 os) #[.slice none 0 0] 8 rfl (World.shaped_of_RefB (by kernel_rfl) (by kernel_rfl)) (by kernel_rfl) (by kernel_rfl) (by kernel_rfl) (door_met os _))
    laidOut (ts := [22]) (by kernel_rfl) (by kernel_rfl) rfl (fun ds h => by
      match ds, h with
      | [a], _ => rfl) (rt := 4) (by kernel_rfl) (by kernel_rfl) contract (by kernel_rfl) table
theorem over : Rows.localRewritesRow.holds Tryz.pinned (OpenSpec.ofChange Rows.localRewritesSpec) :=
  OpenClaim.holds_of_wide 3 Tryz.f3 rfl rfl rfl rfl rfl rfl rfl ⟨rfl, rfl, rfl, rfl, rfl⟩ rfl rfl rfl rfl rfl (by kernel_rfl) Tryz.func3 (by kernel_rfl)
    (of_decide_eq_true (by kernel_rfl)) (by unfold Func.isWrapper; first | (rw [if_pos (by decide +kernel)]; kernel_rfl) | (rw [if_neg (by decide +kernel)]; exact ⟨rfl, rfl⟩))
    (fun os started H enc _ => lifted os started H enc)
theorem proved : Rows.LocalRewritesCardSaid :=
  Claim7.holds_tied_plain_at .later [] [.data, .data, .data] true (true, "e59ed162d452c0d582cb058ef6beaba31f16f1a713e4335b645f1b772750d0db") true
    over (fun _ h => by cases h) (by kernel_rfl) (fun _ h => by cases h) localRewrites_row_tie rfl ⟨rfl, rfl⟩ (by kernel_rfl) rfl
    (fun f fn hf hfn => by
      obtain rfl : f = 3 := Option.some.inj ((show Tryz.prog.funcNamed Rows.localRewritesRow.func = some 3 by kernel_rfl).symm.trans hf) |>.symm
      obtain rfl : fn = Tryz.f3 := (Option.some.inj (Tryz.func3.symm.trans hfn)).symm
      refine ⟨by kernel_rfl, fun j t ht => ?_⟩
      have hp : Tryz.f3.params = #[22] := by kernel_rfl
      rw [hp] at ht
      have hm : t ∈ [22] := by
        have := Array.mem_of_getElem? ht
        simpa using this
      simp only [List.mem_cons, List.not_mem_nil, or_false] at hm
      rcases hm with rfl <;> first | exact (show Tryz.prog.wantsStandIn 22 = false by kernel_rfl))
    (by kernel_rfl)
end Go.Proofs.YtbdjanjcphgjdaaGreatDoor.localRewrites
namespace Go.Proofs.YtbdjanjcphgjdaaGreatDoor
theorem localRewritesCard_holds : Rows.LocalRewritesCardSaid := localRewrites.proved
#print axioms localRewritesCard_holds
end Go.Proofs.YtbdjanjcphgjdaaGreatDoor
