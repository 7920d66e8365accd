import Derived.Test.YtbdjanjcphgjdaaDoorZ18
import Derived.Test.YtbdjanjcphgjdaaDoorZ19
set_option linter.unusedVariables false
set_option linter.unusedSimpArgs false
set_option linter.unusedSectionVars false
namespace Go.Den
open Go.Proofs
theorem TmOk.args {n : Nat} : ∀ {a b : Rows}, tms a = tms b → (∀ r ∈ a, TmOk n (tmAt r 0)) → ∀ r ∈ b, TmOk n (tmAt r 0) := by
  intro a b h ha r hr
  have : tmAt r 0 ∈ tms b := List.mem_map.2 ⟨r, hr, rfl⟩
  rw [← h] at this
  obtain ⟨s, hs, e⟩ := List.mem_map.1 this
  have := ha s hs
  rwa [e] at this
theorem LitOk.data {n : Nat} {a b : Row} (h : litD a = litD b) (ha : LitOk n a) : LitOk n b := by
  unfold litD at h
  simp only [Prod.mk.injEq] at h
  have hl : (Row.R a 5).length = (Row.R b 5).length := by rw [← tms_len, ← tms_len (Row.R b 5), h.2.2.1]
  exact ⟨h.1 ▸ ha.by_, h.2.1 ▸ ha.pred, hl ▸ ha.len, TmOk.args h.2.2.1 ha.args, h.2.2.2 ▸ ha.at_⟩
theorem RuleOk.data {n : Nat} {a b : Row} (h : ruleD a = ruleD b) (ha : RuleOk n a) : RuleOk n b := by
  unfold ruleD at h
  simp only [Prod.mk.injEq] at h
  have hl : (Row.R a 5).length = (Row.R b 5).length := by rw [← tms_len, ← tms_len (Row.R b 5), h.2.2.1]
  have hl2 : (Row.R a 10).length = (Row.R b 10).length := by have := congrArg List.length h.2.2.2.2; simpa using this
  refine ⟨h.1 ▸ ha.home, h.2.1 ▸ ha.pred, hl ▸ ha.len, TmOk.args h.2.2.1 ha.args, h.2.2.2.1 ▸ ha.to_, hl2 ▸ ha.blen, fun l hl => ?_⟩
  have : litD l ∈ (Row.R b 10).map litD := List.mem_map.2 ⟨l, hl, rfl⟩
  rw [← h.2.2.2.2] at this
  obtain ⟨s, hs, e⟩ := List.mem_map.1 this
  exact LitOk.data e (ha.body s hs)
theorem RulesOk.data {n : Nat} {a b : Rows} (h : a.map ruleD = b.map ruleD) (ha : ∀ r ∈ a, RuleOk n r) : ∀ r ∈ b, RuleOk n r := by
  intro l hl
  have : ruleD l ∈ b.map ruleD := List.mem_map.2 ⟨l, hl, rfl⟩
  rw [← h] at this
  obtain ⟨s, hs, e⟩ := List.mem_map.1 this
  exact RuleOk.data e (ha s hs)
structure CopyOk (n : Nat) (r : Row) : Prop where
  a : (Row.R r 5).length ≤ 1000
  b : (Row.R r 10).length ≤ 1000
  ba : ∀ l ∈ Row.R r 10, (Row.R l 5).length ≤ 1000
  bl : ∀ l ∈ Row.R r 10, 5 < l.length
end Go.Den
