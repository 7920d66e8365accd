import Derived.Test.YtlpnccpagikioaaGreatDoorZ32
import Derived.Test.YtlpnccpagikioaaGreatDoorZ21
set_option linter.unusedVariables false
set_option linter.unusedSimpArgs false
set_option linter.unusedSectionVars false
namespace Go.Den
open Go.Proofs
set_option linter.unusedVariables false
theorem law10_CheckPrograms_pure (b0 : Bool) (r1 : Rows) (h : Fsl b0 kR r1) : ∃ n, law10_CheckPrograms_v n b0 r1 = some (true, ()) := by
  refine ⟨bigN, ?_⟩
  have hN := bigN_big
  have hN2 := bigN_2
  have hlv := live_q (n := bigN) hN2
  rw [law10_CheckPrograms_e, weight5_q (by omega) (by omega) h.2.2.1 h.1 (fun r hr => bigN_lt (fineR (rowsFine_mem h.2.2.1 hr)).2.2.1) (bigN_lt h.1), hlv]
  simp only [obs]
  by_cases hw : weight5 300 r1 0 > 300
  · simp only [hw, decide_true, cond_true]
  · simp only [hw, decide_false, cond_false]
    have hok := rulesOk h.2.2.1 (by omega)
    have hlen := hok.len
    have hb : 1000000 ≤ big := by unfold big; omega
    obtain ⟨nl, hc⟩ := Copy_q (n := bigN) (b0 := b0) (by omega) (by omega) hok.copy
    have hD := copy_D (r1 := r1) (fun r hr => (hok.copy r hr).bl)
    have hokc := RulesOk.data hD.symm hok.ok
    have hlc : (r1.map copyRule).length = r1.length := List.length_map ..
    have hsm : ∀ a ∈ r1.map copyRule, Small2 bigN a := fun a ha => by
      have hR := hokc a ha
      have a1 := hR.len
      have a2 := hR.blen
      exact ⟨⟨by omega, by omega⟩, ⟨⟨by omega, by omega⟩, fun q hq => by have := (hR.body q hq).len; exact ⟨by omega, by omega⟩⟩⟩
    rw [hc]
    simp only [obs]
    rw [Program_q hN2 (by omega) hokc, rProgram_q hN2 (by omega) hok.ok, progC_data hD, Like_qd (by omega) (by omega) hsm, hD]
    simp only [obs, outP, beq_self_eq_true, cond_true, decide_true]
end Go.Den
