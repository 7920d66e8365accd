/- The statement LocalSeen is proved: the law returns true, and does not panic, for every input; no conditions. -/
import Derived.Test.YtbdjanjcphgjdaaDoorZ43
import Derived.Test.YtbdjanjcphgjdaaDoorZ03
import Derived.Test.YtbdjanjcphgjdaaDoorRows
import Derived.Test.YtbdjanjcphgjdaaDoorCards
import Derived.Test.YtbdjanjcphgjdaaDoorTie
import Derived.SevenTiedAt
import Derived.WalkKit
import Derived.ProofKit
import Derived.OpenShut
import Derived.JoinedOf
set_option linter.unusedVariables false
set_option linter.unusedSimpArgs false
set_option linter.unusedSectionVars false
namespace Go.Proofs.YtbdjanjcphgjdaaDoor.localSeen
open Go.Den Go.ChangeShapes Go.WideShapes Go.ChangeAt Go.RowKit
set_option maxRecDepth 100000
theorem own : ownKnob Tryd.prog.godebug = none := by kernel_rfl
theorem laidOut : laidOutB Tryd.prog = true := by kernel_rfl
theorem contract : ∀ rows, Fits Tryd.prog [44] rows → Contract Tryd.prog 6 (argsA Tryd.prog [44] rows) [] ⟨false, .B true, []⟩ := by
  intro rows h
  match rows, h with
  | [r0], h =>
    have e : argsA Tryd.prog [44] [r0] = [.sl (Row.N r0 0) [.s, .s, .s, .sl [.b, .i .i64, .s]] (Row.R r0 0) .no] := by kernel_rfl
    rw [e]
    obtain ⟨⟨ks0, hk0, ho0, hf0⟩, h⟩ := h
    obtain rfl : ks0 = [.sl [.s, .s, .s, .sl [.b, .i .i64, .s]]] := Option.some.inj (hk0.symm.trans (by kernel_rfl))
    obtain ⟨n, hn⟩ := law13_LocalSeen_pure (Row.N r0 0) (Row.R r0 0) (fine_sl (j := 0) ho0 hf0 rfl)
    exact law13_LocalSeen_c n (Row.N r0 0) (Row.R r0 0) _ hn
  | [], h => exact h.elim
  | _ :: _ :: _, h => exact h.2.elim
theorem door_met (os : Os) (args : Array Value) : laidMetH Tryd.prog Rows.localSeenRow.laid ((World.doorLaid Tryd.prog 400 os).forCall (fun _ _ => 0) ⟨#[], args, []⟩).memory :=
  laidMetH_of_parts3 (fuel := 8) (laidMet_of_run' 8 (by kernel_rfl) (by kernel_rfl)) (by kernel_rfl) (by kernel_rfl)
theorem table (W : World) (h : laidMetH Tryd.prog Rows.localSeenRow.laid W) : ∃ ty fr, W.heap[0]? = some (.cells (Go.Lib.pow10Tab.map (Value.int .u64)).toArray ty fr) := by
  rw [MakeChecks.laidMetH_plain _ _ _ (by kernel_rfl)] at h
  have h3 := laidMet.tail (laidMet.tail h)
  exact glob_of_tab (by kernel_rfl) (Go.Lib.tabIs_of_head (k := .u64) (zs := Go.Lib.pow10Tab) (g := 0) (n := 20) (e := 131) (by kernel_rfl) rfl (by kernel_rfl) (by kernel_rfl) (by kernel_rfl) (by kernel_rfl) h3)
theorem lifted (os : Os) (started : os.Started) (H : Type) (enc : TypeId × Value → H) :
    ReturnsInHanded {} Tryd.checked os 6 .any (fun w args => (Rows.localSeenSpec.pre enc Tryd.prog Tryd.f6 [] false w args ∧ laidMetH Tryd.prog Rows.localSeenRow.laid w) ∧ sizedMet enc Tryd.prog Tryd.f6 (OpenSpec.ofChange Rows.localSeenSpec) false w args)
      (Rows.localSeenSpec.post enc Tryd.prog Tryd.f6 false true false false) :=
  lifted_of_laid (C := Tryd.checked) started own (by kernel_rfl) Tryd.func6
    (ChangeSpec.witness_shaped (enc := enc) (C := Tryd.checked) (os := os) (X := fun w _ => laidMetH Tryd.prog Rows.localSeenRow.laid w) false (World.doorLaid Tryd.prog 400 os) #[.slice none 0 0] 8 rfl (World.shaped_of_RefB (by kernel_rfl) (by kernel_rfl)) (by kernel_rfl) (by kernel_rfl) (by kernel_rfl) (door_met os _))
    laidOut (ts := [44]) (by kernel_rfl) (by kernel_rfl) rfl (fun ds h => by
      match ds, h with
      | [a], _ => rfl) (rt := 4) (by kernel_rfl) (by kernel_rfl) contract (by kernel_rfl) table
theorem over : Rows.localSeenRow.holds Tryd.pinned (OpenSpec.ofChange Rows.localSeenSpec) :=
  OpenClaim.holds_of_wide 6 Tryd.f6 rfl rfl rfl rfl rfl rfl rfl ⟨rfl, rfl, rfl, rfl, rfl⟩ rfl rfl rfl rfl rfl (by kernel_rfl) Tryd.func6 (by kernel_rfl)
    (of_decide_eq_true (by kernel_rfl)) (by unfold Func.isWrapper; first | (rw [if_pos (by decide +kernel)]; kernel_rfl) | (rw [if_neg (by decide +kernel)]; exact ⟨rfl, rfl⟩))
    (fun os started H enc _ => lifted os started H enc)
theorem proved : Rows.LocalSeenCardSaid :=
  Claim7.holds_tied_plain_at .later [] [.data, .data, .data] true (true, "7b0ce176068fbd498a1e57c05df9ef93773bfc34c8aab88d51b894663e2edcb6") true
    over (fun _ h => by cases h) (by kernel_rfl) (fun _ h => by cases h) localSeen_row_tie rfl ⟨rfl, rfl⟩ (by kernel_rfl) rfl
    (fun f fn hf hfn => by
      obtain rfl : f = 6 := Option.some.inj ((show Tryd.prog.funcNamed Rows.localSeenRow.func = some 6 by kernel_rfl).symm.trans hf) |>.symm
      obtain rfl : fn = Tryd.f6 := (Option.some.inj (Tryd.func6.symm.trans hfn)).symm
      refine ⟨by kernel_rfl, fun j t ht => ?_⟩
      have hp : Tryd.f6.params = #[44] := by kernel_rfl
      rw [hp] at ht
      have hm : t ∈ [44] := by
        have := Array.mem_of_getElem? ht
        simpa using this
      simp only [List.mem_cons, List.not_mem_nil, or_false] at hm
      rcases hm with rfl <;> first | exact (show Tryd.prog.wantsStandIn 44 = false by kernel_rfl))
    (by kernel_rfl)
end Go.Proofs.YtbdjanjcphgjdaaDoor.localSeen
namespace Go.Proofs.YtbdjanjcphgjdaaDoor
theorem localSeenCard_holds : Rows.LocalSeenCardSaid := localSeen.proved
#print axioms localSeenCard_holds
end Go.Proofs.YtbdjanjcphgjdaaDoor
