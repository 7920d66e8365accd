import Derived.Test.YtbdjanjcphgjdaaDoorZ32
set_option linter.unusedVariables false
set_option linter.unusedSimpArgs false
set_option linter.unusedSectionVars false
namespace Go.Den
open Go.Proofs
set_option maxRecDepth 20000
set_option linter.unusedVariables false
def flatR (d : RuleD) : Prop := ∀ l ∈ d.2.2.2.2, l.2.2.2 = zeroT
theorem oneL_flat (i : Int) (d : RuleD) : ∀ (l : List LitD) (k : Nat) (re : List LitD) (out : List RuleD), (∀ x ∈ re, x.2.2.2 = zeroT) → (∀ x ∈ out, flatR x) → ∀ x ∈ oneL i d l k re out, flatR x
  | [], k, re, out, hr, ho, x, hx => by
    unfold oneL at hx
    rcases List.mem_append.1 hx with h | h
    · exact ho x h
    · rw [List.mem_singleton.1 h]; exact hr
  | a :: l, k, re, out, hr, ho, x, hx => by
    unfold oneL at hx
    have hr' : ∀ y ∈ re ++ [noAt a], y.2.2.2 = zeroT := fun y hy => by
      rcases List.mem_append.1 hy with h | h
      · exact hr y h
      · rw [List.mem_singleton.1 h]; rfl
    cases h1 : decide (a.2.2.2 = zeroT) with
    | true => rw [h1] at hx; exact oneL_flat i d l (k + 1) _ _ hr' ho x hx
    | false =>
      cases h2 : decide (a.2.2.2 = d.1) with
      | true => rw [h1, h2] at hx; exact oneL_flat i d l (k + 1) _ _ hr' ho x hx
      | false =>
        rw [h1, h2] at hx
        refine oneL_flat i d l (k + 1) _ _ (fun y hy => by rw [List.mem_singleton.1 hy]) (fun y hy => ?_) x hx
        rcases List.mem_append.1 hy with h | h
        · exact ho y h
        · rcases List.mem_cons.1 h with rfl | h
          · exact hr
          · rw [List.mem_singleton.1 h]
            intro z hz
            rcases List.mem_cons.1 hz with rfl | hz
            · rfl
            · rw [List.mem_singleton.1 hz]; rfl
theorem rewL_flat : ∀ (l : List RuleD) (i : Nat), ∀ x ∈ rewL l i, flatR x
  | [], i, x, hx => by cases hx
  | d :: t, i, x, hx => by
    unfold rewL at hx
    rcases List.mem_append.1 hx with h | h
    · exact oneL_flat _ _ _ _ _ _ (fun _ h => by cases h) (fun _ h => by cases h) x h
    · exact rewL_flat t (i + 1) x h
def remN (home : Tm) : List LitD → Nat
  | [] => 0
  | a :: l => (bif decide (a.2.2.2 = zeroT) then 0 else bif decide (a.2.2.2 = home) then 0 else 2) + remN home l
theorem oneL_last (i : Int) (d : RuleD) : ∀ (l : List LitD) (k : Nat) (re : List LitD) (out : List RuleD), ∃ pre re', oneL i d l k re out = pre ++ [(d.1, d.2.1, d.2.2.1, d.2.2.2.1, re')] ∧ pre.length = out.length + remN d.1 l
  | [], k, re, out => ⟨out, re, by unfold oneL; rfl, by simp [remN]⟩
  | a :: l, k, re, out => by
    unfold oneL remN
    cases h1 : decide (a.2.2.2 = zeroT) with
    | true =>
      obtain ⟨pre, re', g1, g2⟩ := oneL_last i d l (k + 1) (re ++ [noAt a]) out
      exact ⟨pre, re', g1, by simp only [cond_true]; omega⟩
    | false =>
      cases h2 : decide (a.2.2.2 = d.1) with
      | true =>
        obtain ⟨pre, re', g1, g2⟩ := oneL_last i d l (k + 1) (re ++ [noAt a]) out
        exact ⟨pre, re', g1, by simp only [cond_true, cond_false]; omega⟩
      | false =>
        simp only [cond_false]
        obtain ⟨pre, re', g1, g2⟩ := oneL_last i d l (k + 1) [(a.2.2.2, tellP ++ nameD i k, (boundS d.1.1 d.2.2.2.2 (k + 1)).map varT, zeroT)]
          (out ++ [(d.1, askP ++ nameD i k, (boundS d.1.1 d.2.2.2.2 k).map varT, a.2.2.2, re), (a.2.2.2, tellP ++ nameD i k, (boundS d.1.1 d.2.2.2.2 (k + 1)).map varT, d.1, [(d.1, askP ++ nameD i k, (boundS d.1.1 d.2.2.2.2 k).map varT, zeroT), noAt a])])
        exact ⟨pre, re', g1, by simp only [List.length_append, List.length_cons, List.length_nil] at g2; omega⟩
end Go.Den
