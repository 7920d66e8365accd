/- The statement ShowApart is proved: the law returns true, and does not panic, for every input; no conditions. -/
import Derived.Test.YtlpnccpagikioaaDoorZ35
import Derived.Test.YtlpnccpagikioaaDoorZ03
import Derived.Test.YtlpnccpagikioaaDoorRows
import Derived.Test.YtlpnccpagikioaaDoorCards
import Derived.Test.YtlpnccpagikioaaDoorTie
import Derived.SevenTiedAt
import Derived.WalkKit
import Derived.ProofKit
import Derived.OpenShut
import Derived.JoinedOf
set_option linter.unusedVariables false
set_option linter.unusedSimpArgs false
set_option linter.unusedSectionVars false
namespace Go.Proofs.YtlpnccpagikioaaDoor.showApart
open Go.Den Go.ChangeShapes Go.WideShapes Go.ChangeAt Go.RowKit
set_option maxRecDepth 100000
theorem own : ownKnob Tryd.prog.godebug = none := by kernel_rfl
theorem laidOut : laidOutB Tryd.prog = true := by kernel_rfl
theorem contract : ∀ rows, Fits Tryd.prog [31, 35, 35] rows → Contract Tryd.prog 4 (argsA Tryd.prog [31, 35, 35] rows) [] ⟨false, .B true, []⟩ := by
  intro rows h
  match rows, h with
  | [r0, r1, r2], h =>
    have e : argsA Tryd.prog [31, 35, 35] [r0, r1, r2] = [.agg [.S (Row.S r0 0), .B (Row.B r0 1), .I .i64 (Row.I r0 2), .S (Row.S r0 3), .S (Row.S r0 4), .B (Row.B r0 5), .I .i64 (Row.I r0 6), .S (Row.S r0 7)], .agg [.S (Row.S r1 0), .B (Row.B r1 1), .I .i64 (Row.I r1 2), .S (Row.S r1 3), .S (Row.S r1 4), .sl (Row.N r1 5) [.s, .b, .i .i64, .s] (Row.R r1 5) .no, .S (Row.S r1 6), .B (Row.B r1 7), .I .i64 (Row.I r1 8), .S (Row.S r1 9), .sl (Row.N r1 10) [.s, .b, .i .i64, .s, .s, .sl [.s, .b, .i .i64, .s], .s, .b, .i .i64, .s] (Row.R r1 10) .no], .agg [.S (Row.S r2 0), .B (Row.B r2 1), .I .i64 (Row.I r2 2), .S (Row.S r2 3), .S (Row.S r2 4), .sl (Row.N r2 5) [.s, .b, .i .i64, .s] (Row.R r2 5) .no, .S (Row.S r2 6), .B (Row.B r2 7), .I .i64 (Row.I r2 8), .S (Row.S r2 9), .sl (Row.N r2 10) [.s, .b, .i .i64, .s, .s, .sl [.s, .b, .i .i64, .s], .s, .b, .i .i64, .s] (Row.R r2 10) .no]] := by kernel_rfl
    rw [e]
    obtain ⟨⟨ks0, hk0, ho0, hf0⟩, h⟩ := h
    obtain rfl : ks0 = [.s, .b, .i .i64, .s, .s, .b, .i .i64, .s] := Option.some.inj (hk0.symm.trans (by kernel_rfl))
    obtain ⟨⟨ks1, hk1, ho1, hf1⟩, h⟩ := h
    obtain rfl : ks1 = [.s, .b, .i .i64, .s, .s, .sl [.s, .b, .i .i64, .s], .s, .b, .i .i64, .s, .sl [.s, .b, .i .i64, .s, .s, .sl [.s, .b, .i .i64, .s], .s, .b, .i .i64, .s]] := Option.some.inj (hk1.symm.trans (by kernel_rfl))
    obtain ⟨⟨ks2, hk2, ho2, hf2⟩, h⟩ := h
    obtain rfl : ks2 = [.s, .b, .i .i64, .s, .s, .sl [.s, .b, .i .i64, .s], .s, .b, .i .i64, .s, .sl [.s, .b, .i .i64, .s, .s, .sl [.s, .b, .i .i64, .s], .s, .b, .i .i64, .s]] := Option.some.inj (hk2.symm.trans (by kernel_rfl))
    obtain ⟨n, hn⟩ := law09_ShowApart_pure (Row.S r0 0) (Row.B r0 1) (Row.I r0 2) (Row.S r0 3) (Row.S r0 4) (Row.B r0 5) (Row.I r0 6) (Row.S r0 7) (Row.S r1 0) (Row.B r1 1) (Row.I r1 2) (Row.S r1 3) (Row.S r1 4) (Row.N r1 5) (Row.R r1 5) (Row.S r1 6) (Row.B r1 7) (Row.I r1 8) (Row.S r1 9) (Row.N r1 10) (Row.R r1 10) (Row.S r2 0) (Row.B r2 1) (Row.I r2 2) (Row.S r2 3) (Row.S r2 4) (Row.N r2 5) (Row.R r2 5) (Row.S r2 6) (Row.B r2 7) (Row.I r2 8) (Row.S r2 9) (Row.N r2 10) (Row.R r2 10) (fine_S (j := 0) hf0) (fine_I (j := 2) ho0 hf0 rfl) (fine_S (j := 3) hf0) (fine_S (j := 4) hf0) (fine_I (j := 6) ho0 hf0 rfl) (fine_S (j := 7) hf0) (fine_S (j := 0) hf1) (fine_I (j := 2) ho1 hf1 rfl) (fine_S (j := 3) hf1) (fine_S (j := 4) hf1) (fine_sl (j := 5) ho1 hf1 rfl) (fine_S (j := 6) hf1) (fine_I (j := 8) ho1 hf1 rfl) (fine_S (j := 9) hf1) (fine_sl (j := 10) ho1 hf1 rfl) (fine_S (j := 0) hf2) (fine_I (j := 2) ho2 hf2 rfl) (fine_S (j := 3) hf2) (fine_S (j := 4) hf2) (fine_sl (j := 5) ho2 hf2 rfl) (fine_S (j := 6) hf2) (fine_I (j := 8) ho2 hf2 rfl) (fine_S (j := 9) hf2) (fine_sl (j := 10) ho2 hf2 rfl)
    exact law09_ShowApart_c n (Row.S r0 0) (Row.B r0 1) (Row.I r0 2) (Row.S r0 3) (Row.S r0 4) (Row.B r0 5) (Row.I r0 6) (Row.S r0 7) (Row.S r1 0) (Row.B r1 1) (Row.I r1 2) (Row.S r1 3) (Row.S r1 4) (Row.N r1 5) (Row.R r1 5) (Row.S r1 6) (Row.B r1 7) (Row.I r1 8) (Row.S r1 9) (Row.N r1 10) (Row.R r1 10) (Row.S r2 0) (Row.B r2 1) (Row.I r2 2) (Row.S r2 3) (Row.S r2 4) (Row.N r2 5) (Row.R r2 5) (Row.S r2 6) (Row.B r2 7) (Row.I r2 8) (Row.S r2 9) (Row.N r2 10) (Row.R r2 10) _ hn
  | [], h => exact h.elim
  | [_], h => exact h.2.elim
  | [_, _], h => exact h.2.2.elim
  | _ :: _ :: _ :: _ :: _, h => exact h.2.2.2.elim
theorem door_met (os : Os) (args : Array Value) : laidMetH Tryd.prog Rows.showApartRow.laid ((World.doorLaid Tryd.prog 400 os).forCall (fun _ _ => 0) ⟨#[], args, []⟩).memory :=
  laidMetH_of_parts3 (fuel := 8) (laidMet_of_run' 8 (by kernel_rfl) (by kernel_rfl)) (by kernel_rfl) (by kernel_rfl)
theorem table (W : World) (h : laidMetH Tryd.prog Rows.showApartRow.laid W) : ∃ ty fr, W.heap[0]? = some (.cells (Go.Lib.pow10Tab.map (Value.int .u64)).toArray ty fr) := by
  rw [MakeChecks.laidMetH_plain _ _ _ (by kernel_rfl)] at h
  have h3 := laidMet.tail (laidMet.tail h)
  exact glob_of_tab (by kernel_rfl) (Go.Lib.tabIs_of_head (k := .u64) (zs := Go.Lib.pow10Tab) (g := 0) (n := 20) (e := 131) (by kernel_rfl) rfl (by kernel_rfl) (by kernel_rfl) (by kernel_rfl) (by kernel_rfl) h3)
theorem lifted (os : Os) (started : os.Started) (H : Type) (enc : TypeId × Value → H) :
    ReturnsInHanded {} Tryd.checked os 4 .any (fun w args => (Rows.showApartSpec.pre enc Tryd.prog Tryd.f4 [] false w args ∧ laidMetH Tryd.prog Rows.showApartRow.laid w) ∧ sizedMet enc Tryd.prog Tryd.f4 (OpenSpec.ofChange Rows.showApartSpec) false w args)
      (Rows.showApartSpec.post enc Tryd.prog Tryd.f4 false true false false) :=
  lifted_of_laid (C := Tryd.checked) started own (by kernel_rfl) Tryd.func4
    (ChangeSpec.witness_shaped (enc := enc) (C := Tryd.checked) (os := os) (X := fun w _ => laidMetH Tryd.prog Rows.showApartRow.laid w) false (World.doorLaid Tryd.prog 400 os) #[.agg #[.string ByteArray.empty, .bool false, .int .i64 0, .string ByteArray.empty, .string ByteArray.empty, .bool false, .int .i64 0, .string ByteArray.empty], .agg #[.string ByteArray.empty, .bool false, .int .i64 0, .string ByteArray.empty, .string ByteArray.empty, .slice none 0 0, .string ByteArray.empty, .bool false, .int .i64 0, .string ByteArray.empty, .slice none 0 0], .agg #[.string ByteArray.empty, .bool false, .int .i64 0, .string ByteArray.empty, .string ByteArray.empty, .slice none 0 0, .string ByteArray.empty, .bool false, .int .i64 0, .string ByteArray.empty, .slice none 0 0]] 8 rfl (World.shaped_of_RefB (by kernel_rfl) (by kernel_rfl)) (by kernel_rfl) (by kernel_rfl) (by kernel_rfl) (door_met os _))
    laidOut (ts := [31, 35, 35]) (by kernel_rfl) (by kernel_rfl) rfl (fun ds h => by
      match ds, h with
      | [a, b, c], _ => rfl) (rt := 4) (by kernel_rfl) (by kernel_rfl) contract (by kernel_rfl) table
theorem over : Rows.showApartRow.holds Tryd.pinned (OpenSpec.ofChange Rows.showApartSpec) :=
  OpenClaim.holds_of_wide 4 Tryd.f4 rfl rfl rfl rfl rfl rfl rfl ⟨rfl, rfl, rfl, rfl, rfl⟩ rfl rfl rfl rfl rfl (by kernel_rfl) Tryd.func4 (by kernel_rfl)
    (of_decide_eq_true (by kernel_rfl)) (by unfold Func.isWrapper; first | (rw [if_pos (by decide +kernel)]; kernel_rfl) | (rw [if_neg (by decide +kernel)]; exact ⟨rfl, rfl⟩))
    (fun os started H enc _ => lifted os started H enc)
theorem proved : Rows.ShowApartCardSaid :=
  Claim7.holds_tied_plain_at .later [] [.data, .data, .data] true (true, "f952174a73a2350e8ca471c6dc90b4bf5810e390e6b385c6378f1dc1b0e6c72e") true
    over (fun _ h => by cases h) (by kernel_rfl) (fun _ h => by cases h) showApart_row_tie rfl ⟨rfl, rfl⟩ (by kernel_rfl) rfl
    (fun f fn hf hfn => by
      obtain rfl : f = 4 := Option.some.inj ((show Tryd.prog.funcNamed Rows.showApartRow.func = some 4 by kernel_rfl).symm.trans hf) |>.symm
      obtain rfl : fn = Tryd.f4 := (Option.some.inj (Tryd.func4.symm.trans hfn)).symm
      refine ⟨by kernel_rfl, fun j t ht => ?_⟩
      have hp : Tryd.f4.params = #[31, 35, 35] := by kernel_rfl
      rw [hp] at ht
      have hm : t ∈ [31, 35, 35] := by
        have := Array.mem_of_getElem? ht
        simpa using this
      simp only [List.mem_cons, List.not_mem_nil, or_false] at hm
      rcases hm with rfl | rfl | rfl <;> first | exact (show Tryd.prog.wantsStandIn 31 = false by kernel_rfl) | exact (show Tryd.prog.wantsStandIn 35 = false by kernel_rfl))
    (by kernel_rfl)
end Go.Proofs.YtlpnccpagikioaaDoor.showApart
namespace Go.Proofs.YtlpnccpagikioaaDoor
theorem showApartCard_holds : Rows.ShowApartCardSaid := showApart.proved
#print axioms showApartCard_holds
end Go.Proofs.YtlpnccpagikioaaDoor
