import Derived.Test.YtlpnccpagikioaaGreatDoorZ40
import Derived.Test.YtlpnccpagikioaaGreatDoorZ35
set_option linter.unusedVariables false
set_option linter.unusedSimpArgs false
set_option linter.unusedSectionVars false
namespace Go.Den
open Go.Proofs
set_option linter.unusedVariables false
theorem law10_CheckTexts_pure (s0 : ByteArray) (h0 : s0.size ≤ reachBytes) : ∃ n, law10_CheckTexts_v n s0 = some (true, ()) := by
  refine ⟨bigN, ?_⟩
  have hN := bigN_big
  have hN2 := bigN_2
  have hlv := live_q (n := bigN) hN2
  rw [law10_CheckTexts_e, program_pq (by omega), hlv]
  simp only [obs]
  cases hp : parseE s0 with
  | error x =>
    obtain ⟨a, e⟩ := x
    simp only [encG]
    cases he : (e != 0) with
    | true => rfl
    | false =>
      simp only [cond_false]
      rw [Program_q hN2 (by simp) (fun r hr => by cases hr), rProgram_q hN2 (by simp) (fun r hr => by cases hr)]
      simp only [obs, outP, beq_self_eq_true, cond_true]
  | ok l =>
    obtain ⟨hg, hl⟩ := parseE_good hp
    have hok : ∀ r ∈ l, RuleOk bigN r := fun r hr => by
      have := hg (ruleD r) (List.mem_map.2 ⟨r, hr, rfl⟩)
      exact ruleOk_of hN this.1 this.2
    simp only [encG, bne_self_eq_false, cond_false]
    rw [Program_q hN2 (by omega) hok, rProgram_q hN2 (by omega) hok]
    simp only [obs, outP, beq_self_eq_true, cond_true]
end Go.Den
