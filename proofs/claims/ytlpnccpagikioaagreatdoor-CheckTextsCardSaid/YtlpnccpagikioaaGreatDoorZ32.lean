import Derived.Test.YtlpnccpagikioaaGreatDoorZ31
import Derived.Test.YtlpnccpagikioaaGreatDoorZ26
set_option linter.unusedVariables false
set_option linter.unusedSimpArgs false
set_option linter.unusedSectionVars false
namespace Go.Den
open Go.Proofs
def tokT (t : Tm) : Tok := bif !(t.1 == noB) then (2, t.1, 0) else bif t.2.1 then (3, noB, t.2.2.1) else bif wordS t.2.2.2 then (1, t.2.2.2, 0) else (4, t.2.2.2, 0)
structure Bnd (t : Tm) : Prop where
  lo : -9223372036854775808 ≤ t.2.2.1
  hi : t.2.2.1 ≤ 9223372036854775807
theorem term1_cases {t : Tm} {s : ByteArray} (h : term1 t = some s) :
    (∃ w, t = (w, false, 0, noB) ∧ namedS isGreat w = true ∧ s = w ∧ tokT t = (2, w, 0)) ∨ (∃ z, t = (noB, true, z, noB) ∧ s = ⟨(Go.Lib.itoa z).toArray⟩ ∧ tokT t = (3, noB, z)) ∨
    (∃ x, t = (noB, false, 0, x) ∧ wordS x = true ∧ s = x ∧ tokT t = (1, x, 0)) ∨
    (∃ x, t = (noB, false, 0, x) ∧ wordS x = false ∧ plainS x = true ∧ 1 ≤ x.size ∧ x.size ≤ 32 ∧ s = ByteArray.mk #[34] ++ x ++ ByteArray.mk #[34] ∧ tokT t = (4, x, 0)) := by
  obtain ⟨w, b, z, x⟩ := t
  unfold term1 termS at h
  simp only at h
  cases h0 : w == noB with
  | false =>
    rw [h0] at h
    simp only [Bool.not_false, cond_true] at h
    cases h1 : (b == false && (z == 0 && x == noB) && namedS isGreat w) with
    | false => rw [h1] at h; cases h
    | true =>
      rw [h1] at h
      simp only [cond_true, beq_self_eq_true, Option.some.injEq] at h
      simp only [Bool.and_eq_true, beq_iff_eq] at h1
      obtain ⟨⟨h2, h3, h4⟩, h5⟩ := h1
      subst h2 h3 h4 h
      exact .inl ⟨w, rfl, h5, rfl, by unfold tokT; rw [h0]; rfl⟩
  | true =>
    rw [h0] at h
    have hw : w = noB := eq_of_beq h0
    subst hw
    simp only [Bool.not_true, cond_false] at h
    cases b with
    | true =>
      simp only [cond_true] at h
      cases h1 : x == noB with
      | false => rw [h1] at h; cases h
      | true =>
        rw [h1] at h
        have hx : x = noB := eq_of_beq h1
        subst hx
        simp only [cond_true, beq_self_eq_true, Option.some.injEq] at h
        exact .inr (.inl ⟨z, rfl, h.symm, rfl⟩)
    | false =>
      simp only [cond_false] at h
      cases h1 : (z == 0 && (plainS x && (decide (1 ≤ x.size) && decide (x.size ≤ 32)))) with
      | false => rw [h1] at h; cases h
      | true =>
        rw [h1] at h
        simp only [Bool.and_eq_true, beq_iff_eq, decide_eq_true_eq] at h1
        obtain ⟨h2, h3, h4, h5⟩ := h1
        subst h2
        simp only [cond_true, shownS] at h
        cases h6 : (namedS isSmall x && !keptS x) with
        | true =>
          rw [h6] at h
          simp only [cond_true, beq_self_eq_true, Option.some.injEq] at h
          exact .inr (.inr (.inl ⟨x, rfl, h6, h.symm, by unfold tokT wordS; rw [h6]; rfl⟩))
        | false =>
          rw [h6] at h
          simp only [cond_false, cond_true, beq_self_eq_true, Option.some.injEq] at h
          exact .inr (.inr (.inr ⟨x, rfl, h6, h3, h4, h5, h.symm, by unfold tokT wordS; rw [h6]; rfl⟩))
@[reducible] def tk (c : UInt8) : Tok := (5, ByteArray.mk #[c], 0)
structure BndL (d : LitD) : Prop where
  by_ : Bnd d.1
  args : ∀ t ∈ d.2.2.1, Bnd t
  at_ : Bnd d.2.2.2
structure BndR (d : RuleD) : Prop where
  home : Bnd d.1
  args : ∀ t ∈ d.2.2.1, Bnd t
  to_ : Bnd d.2.2.2.1
  body : ∀ l ∈ d.2.2.2.2, BndL l
end Go.Den
