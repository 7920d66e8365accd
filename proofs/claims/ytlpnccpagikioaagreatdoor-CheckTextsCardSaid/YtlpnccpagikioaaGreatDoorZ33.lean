import Derived.Test.YtlpnccpagikioaaGreatDoorZ32
set_option linter.unusedVariables false
set_option linter.unusedSimpArgs false
set_option linter.unusedSectionVars false
namespace Go.Den
open Go.Proofs
def okT (t : Tm) : Prop := ∃ s, term1 t = some s
def okM (t : Tm) : Prop := nilT t = true ∨ okT t
structure OkL (d : LitD) : Prop where
  by_ : okM d.1
  word : wordS d.2.1 = true
  len : d.2.2.1.length ≤ 4
  args : ∀ t ∈ d.2.2.1, okT t
  at_ : okM d.2.2.2
structure OkR (d : RuleD) : Prop where
  home : okT d.1
  word : wordS d.2.1 = true
  len : d.2.2.1.length ≤ 4
  args : ∀ t ∈ d.2.2.1, okT t
  to_ : okM d.2.2.2.1
  some_ : 1 ≤ d.2.2.2.2.length
  few : d.2.2.2.2.length ≤ 4
  body : ∀ l ∈ d.2.2.2.2, OkL l
theorem kept_eq (s : ByteArray) : kept s = keptS s := by unfold kept keptS; rw [Bool.or_assoc]
@[reducible] def t4 (t : Tm) : T4 := (t.1, t.2.1, t.2.2.1, t.2.2.2, ())
theorem quote_ne {x : ByteArray} (h : 1 ≤ x.size) : (x == noB) = false := by
  cases hx : x == noB with
  | false => rfl
  | true =>
    have : x = noB := eq_of_beq hx
    rw [this] at h
    exact absurd h (by decide)
theorem nilT_eq {t : Tm} (h : nilT t = true) : t = (noB, false, 0, noB) := by
  obtain ⟨a, b, c, d⟩ := t
  unfold nilT at h
  simp only [Bool.and_true, Bool.and_eq_true, beq_iff_eq] at h
  obtain ⟨rfl, rfl, rfl, rfl⟩ := h
  rfl
end Go.Den
