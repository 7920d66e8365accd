import Derived.Test.YtbdjanjcphgjdaaDoorZ35
set_option linter.unusedVariables false
set_option linter.unusedSimpArgs false
set_option linter.unusedSectionVars false
namespace Go.Den
open Go.Proofs
set_option maxRecDepth 20000
set_option linter.unusedVariables false
theorem oneL_body {B : Nat} (hB : 2 ≤ B) (i : Int) (d : RuleD) : ∀ (l : List LitD) (k : Nat) (re : List LitD) (out : List RuleD), re.length + l.length ≤ B → (∀ x ∈ out, x.2.2.2.2.length ≤ B) → ∀ x ∈ oneL i d l k re out, x.2.2.2.2.length ≤ B
  | [], k, re, out, hr, ho, x, hx => by
    unfold oneL at hx
    rcases List.mem_append.1 hx with h | h
    · exact ho x h
    · rw [List.mem_singleton.1 h]
      show re.length ≤ B
      omega
  | a :: l, k, re, out, hr, ho, x, hx => by
    unfold oneL at hx
    simp only [List.length_cons] at hr
    have hr' : (re ++ [noAt a]).length + l.length ≤ B := by simp only [List.length_append, List.length_cons, List.length_nil]; omega
    cases h1 : decide (a.2.2.2 = zeroT) with
    | true => rw [h1] at hx; exact oneL_body hB i d l (k + 1) _ _ hr' ho x hx
    | false =>
      cases h2 : decide (a.2.2.2 = d.1) with
      | true => rw [h1, h2] at hx; exact oneL_body hB i d l (k + 1) _ _ hr' ho x hx
      | false =>
        rw [h1, h2] at hx
        refine oneL_body hB i d l (k + 1) _ _ (by simp only [List.length_cons, List.length_nil]; omega) (fun y hy => ?_) x hx
        rcases List.mem_append.1 hy with h | h
        · exact ho y h
        · rcases List.mem_cons.1 h with rfl | h
          · show re.length ≤ B
            omega
          · rw [List.mem_singleton.1 h]
            show 2 ≤ B
            exact hB
theorem rewL_body {B : Nat} (hB : 2 ≤ B) : ∀ (l : List RuleD) (i : Nat), (∀ d ∈ l, d.2.2.2.2.length ≤ B) → ∀ x ∈ rewL l i, x.2.2.2.2.length ≤ B
  | [], i, _, x, hx => by cases hx
  | d :: t, i, hd, x, hx => by
    unfold rewL at hx
    rcases List.mem_append.1 hx with h | h
    · exact oneL_body hB _ _ _ _ _ _ (by have := hd d (by simp); simp only [List.length_nil]; omega) (fun _ h => by cases h) x h
    · exact rewL_body hB t (i + 1) (fun y hy => hd y (by simp [hy])) x h
end Go.Den
