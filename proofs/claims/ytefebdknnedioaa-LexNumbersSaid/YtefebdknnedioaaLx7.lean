import Derived.Test.YtefebdknnedioaaLx6
set_option linter.unusedVariables false
set_option linter.unusedSimpArgs false
set_option linter.unusedSectionVars false
/- LexTokens, LexWheres, LexCovers. -/
namespace Go.Den
open Go.Proofs
theorem live_at {n : Nat} (h : 64 ≤ n) : law07_live_v n = some (true, ()) := by
  obtain ⟨k, rfl⟩ : ∃ k, n = k + 64 := ⟨n - 64, by omega⟩
  exact lex_live k
theorem law07_LexTokens_pure (s0 : ByteArray) (_h : s0.size ≤ reachBytes) : ∃ n, law07_LexTokens_v n s0 = some (true, ()) := by
  refine ⟨6000, ?_⟩
  rw [law07_LexTokens_e]
  simp only [lex_Tokens_q (n := 6000) (s := s0) (by omega), ref_Tokens_q (n := 6000) (s := s0) (by omega), live_at (n := 6000) (by omega), obind_some]
  cases h : tokensE s0 with
  | ok l =>
    have hl := tokensE_len h
    simp only [tokRes, obind_some, List.nil_append, ref_Like_q (n := 6000) (r1 := l) (r3 := l) (by unfold big; omega) (by omega), likeTok_refl, cond_true, beq_self_eq_true]
  | error p =>
    simp only [tokRes, obind_some, ref_Like_q (n := 6000) (r1 := []) (r3 := []) (by unfold big; simp) (by simp), likeTok_refl, cond_true, beq_self_eq_true]
/-! places -/
/-- Lines and columns: the last line's end, the number of lines. -/
def placeF (s : ByteArray) : Nat → Nat → Int → Int → Int × Int
  | 0, _, line, last => (line, last)
  | k + 1, j, line, last => bif bt s (j : Int) == 10 then placeF s k (j + 1) (line + 1) (j : Int) else placeF s k (j + 1) line last
theorem lex_Where_loop {n : Nat} {s : ByteArray} {j1 : Int} {a : Nat} (hs : s.size ≤ 10000) (ha : a ≤ s.size) (h1 : (if (s.size : Int) < (if 0 > j1 then 0 else j1) then (s.size : Int) else if 0 > j1 then 0 else j1) = (a : Int)) :
    ∀ k j : Nat, j + k = a → ∀ i (line last : Int), k < i → 0 ≤ line → line ≤ 20000 → -1 ≤ last → last < (j : Int) →
    lex_Where_l4 n s j1 i line (j : Int) ((j : Int) - last) = some (((placeF s k j line last).1, ((a : Int) - (placeF s k j line last).2, ())), ()) ∨ 20000 < line + k := by
  intro k
  induction k with
  | zero =>
    intro j hj i line last hi _ _ _ _
    left
    obtain ⟨i, rfl⟩ : ∃ z, i = z + 1 := ⟨i - 1, by omega⟩
    rw [lex_Where_s4, h1]
    have h2 : ¬ (j : Int) < (a : Int) := by omega
    have : j = a := by omega
    subst this
    simp only [h2, decide_false, cond_false, placeF]
  | succ k ih =>
    intro j hj i line last hi hl0 hl1 hl2 hl3
    by_cases hbig : 20000 < line + ((k + 1 : Nat) : Int)
    · exact .inr hbig
    left
    obtain ⟨i, rfl⟩ : ∃ z, i = z + 1 := ⟨i - 1, by omega⟩
    rw [lex_Where_s4, h1]
    have h2 : (j : Int) < (a : Int) := by omega
    have h3 : (0 : Int) ≤ (j : Int) := by omega
    have h4 : (j : Int) < (s.size : Int) := by omega
    have w1 : IntKind.wrap IntKind.i64 (line + 1) = line + 1 := wrap_small (by omega) (by omega)
    have w2 : IntKind.wrap IntKind.i64 ((j : Int) + 1) = ((j + 1 : Nat) : Int) := wrap_succ (by unfold big; omega)
    have w3 : IntKind.wrap IntKind.i64 ((j : Int) - last + 1) = ((j + 1 : Nat) : Int) - last := by rw [wrap_small (z := (j : Int) - last + 1) (by omega) (by omega)]; omega
    simp only [h2, h3, h4, decide_true, cond_true, if_true, w1, w2, w3, placeF]
    cases bt s (j : Int) == 10 with
    | true =>
      simp only [cond_true]
      rcases ih (j + 1) (by omega) i (line + 1) (j : Int) (by omega) (by omega) (by omega) (by omega) (by omega) with h | h
      · have e : ((j + 1 : Nat) : Int) - (j : Int) = 1 := by omega
        rw [e] at h; exact h
      · omega
    | false =>
      simp only [cond_false]
      rcases ih (j + 1) (by omega) i line last (by omega) hl0 hl1 hl2 (by omega) with h | h
      · exact h
      · omega
theorem ref_Where_loop {n : Nat} {s : ByteArray} {j1 : Int} {a : Nat} (hs : s.size ≤ 10000) (ha : a ≤ s.size) :
    ∀ k j : Nat, j + k = a → ∀ i (line last : Int), k < i → 0 ≤ line → line + k ≤ 20000 → -1 ≤ last → last < (j : Int) →
    ref07_Where_l8 n s j1 i (a : Int) line last (j : Int) = some (((placeF s k j line last).1, ((a : Int) - (placeF s k j line last).2, ())), ()) := by
  intro k
  induction k with
  | zero =>
    intro j hj i line last hi _ _ _ _
    obtain ⟨i, rfl⟩ : ∃ z, i = z + 1 := ⟨i - 1, by omega⟩
    rw [ref07_Where_s8]
    have h2 : ¬ (j : Int) < (a : Int) := by omega
    simp only [h2, decide_false, cond_false, placeF]
    rw [wrap_small (z := (a : Int) - last) (by omega) (by omega)]
  | succ k ih =>
    intro j hj i line last hi hl0 hl1 hl2 hl3
    obtain ⟨i, rfl⟩ : ∃ z, i = z + 1 := ⟨i - 1, by omega⟩
    rw [ref07_Where_s8]
    have h2 : (j : Int) < (a : Int) := by omega
    have h3 : (0 : Int) ≤ (j : Int) := by omega
    have h4 : (j : Int) < (s.size : Int) := by omega
    have w1 : IntKind.wrap IntKind.i64 (line + 1) = line + 1 := wrap_small (by omega) (by omega)
    have w2 : IntKind.wrap IntKind.i64 ((j : Int) + 1) = ((j + 1 : Nat) : Int) := wrap_succ (by unfold big; omega)
    simp only [h2, h3, h4, decide_true, cond_true, if_true, w1, w2, placeF]
    cases bt s (j : Int) == 10 with
    | true =>
      simp only [cond_true]
      exact ih (j + 1) (by omega) i (line + 1) (j : Int) (by omega) (by omega) (by omega) (by omega) (by omega)
    | false =>
      simp only [cond_false]
      exact ih (j + 1) (by omega) i line last (by omega) hl0 (by omega) hl2 (by omega)
theorem law07_LexWheres_pure (s0 : ByteArray) (j1 : Int) (_h : s0.size ≤ reachBytes) (_h1 : (Lit.int .i64 j1).wf = true) : ∃ n, law07_LexWheres_v n s0 j1 = some (true, ()) := by
  refine ⟨20000, ?_⟩
  rw [law07_LexWheres_e]
  simp only [live_at (n := 20000) (by omega), obind_some]
  by_cases h : s0.size > 10000
  · have h1 : (s0.size : Int) > 10000 := by omega
    simp only [h1, decide_true, cond_true]
  · have h1 : ¬ (s0.size : Int) > 10000 := by omega
    simp only [h1, decide_false, cond_false]
    obtain ⟨a, ha, h2⟩ : ∃ a : Nat, a ≤ s0.size ∧ (if (s0.size : Int) < (if 0 > j1 then 0 else j1) then (s0.size : Int) else if 0 > j1 then 0 else j1) = (a : Int) := by
      by_cases c1 : 0 > j1
      · refine ⟨0, Nat.zero_le _, ?_⟩
        simp only [c1, if_true]
        rw [if_neg (by omega)]; rfl
      · simp only [c1, if_false]
        by_cases c2 : (s0.size : Int) < j1
        · exact ⟨s0.size, Nat.le_refl _, by rw [if_pos c2]⟩
        · exact ⟨j1.toNat, by omega, by rw [if_neg c2]; omega⟩
    have e1 : lex_Where_v 20000 s0 j1 = some (((placeF s0 a 0 1 (-1)).1, ((a : Int) - (placeF s0 a 0 1 (-1)).2, ())), ()) := by
      rw [lex_Where_e]
      rcases lex_Where_loop (n := 20000) (j1 := j1) (by omega) ha h2 a 0 (by omega) 20000 1 (-1) (by omega) (by omega) (by omega) (by omega) (by omega) with h | h
      · exact h
      · omega
    have e2 : ref07_Where_v 20000 s0 j1 = some (((placeF s0 a 0 1 (-1)).1, ((a : Int) - (placeF s0 a 0 1 (-1)).2, ())), ()) := by
      have hr := ref_Where_loop (n := 20000) (s := s0) (j1 := j1) (by omega) ha a 0 (by omega) 20000 1 (-1) (by omega) (by omega) (by omega) (by omega) (by omega)
      rw [ref07_Where_e]
      by_cases c1 : j1 < 0
      · have : (a : Int) = 0 := by
          rw [← h2]; have : 0 > j1 := c1
          simp only [this, if_true]; rw [if_neg (by omega)]
        simp only [c1, decide_true, cond_true]
        rw [this] at hr; rw [this]; exact hr
      · simp only [c1, decide_false, cond_false]
        have c1' : ¬ 0 > j1 := by omega
        by_cases c2 : j1 > (s0.size : Int)
        · have : (a : Int) = (s0.size : Int) := by
            rw [← h2]; simp only [c1', if_false]; rw [if_pos (by omega)]
          simp only [c2, decide_true, cond_true]
          rw [this] at hr; rw [this]; exact hr
        · have : (a : Int) = j1 := by
            rw [← h2]; simp only [c1', if_false]; rw [if_neg (by omega)]
          simp only [c2, decide_false, cond_false]
          rw [this] at hr; rw [this]; exact hr
    simp only [e1, e2, obind_some, beq_self_eq_true, cond_true]
end Go.Den
