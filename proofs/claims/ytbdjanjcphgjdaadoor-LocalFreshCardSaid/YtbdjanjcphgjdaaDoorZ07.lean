import Derived.Test.YtbdjanjcphgjdaaDoorZ06
import Derived.Test.YtbdjanjcphgjdaaDoorZ05
set_option linter.unusedVariables false
set_option linter.unusedSimpArgs false
set_option linter.unusedSectionVars false
namespace Go.Den
open Go.Proofs
theorem lex_small_q (n : Nat) (c : Int) : lex_small_v n c = some (isSmall c, ()) := by
  rw [lex_small_e]; unfold isSmall; cases decide (c ≥ 97) <;> rfl
theorem lex_great_q (n : Nat) (c : Int) : lex_great_v n c = some (isGreat c, ()) := by
  rw [lex_great_e]; unfold isGreat; cases decide (c ≥ 65) <;> rfl
theorem lex_digit_q (n : Nat) (c : Int) : lex_digit_v n c = some (isDigit c, ()) := by
  rw [lex_digit_e]; unfold isDigit; cases decide (c ≥ 48) <;> rfl
theorem lex_blank_q (n : Nat) (c : Int) : lex_blank_v n c = some (isBlank c, ()) := by
  rw [lex_blank_e]; unfold isBlank; cases c == 32 <;> cases c == 9 <;> cases c == 10 <;> rfl
theorem lex_skip_1_q (n : Nat) (c : Int) : lex_skip_1_v n c = some (notLine c, ()) := by
  rw [lex_skip_1_e]; rfl
theorem lex_quoted_1_q (n : Nat) (c : Int) : lex_quoted_1_v n c = some (isPlain c, ()) := by
  rw [lex_quoted_1_e]; unfold isPlain; cases decide (c ≥ 32) <;> cases decide (c ≤ 126) <;> cases c != 34 <;> rfl
theorem lex_one_1_q (n : Nat) (c : Int) : lex_one_1_v n c = some (isInner c, ()) := by
  rw [lex_one_1_e]; simp only [lex_small_q, lex_great_q, lex_digit_q, obind_some]; unfold isInner; cases isSmall c <;> cases isGreat c <;> cases isDigit c <;> rfl
section
variable {s : ByteArray} (hs : s.size < big)
include hs
theorem over_blank_q {n j : Nat} (hn : s.size < n) (hj : j ≤ s.size) : lo_blank_v n s (j : Int) = some (((over isBlank s j : Nat) : Int), ()) := by
  rw [lo_blank_e]
  exact over_at (F := fun i q => lo_blank_l1 n s j i q) hs (fun i q => by rw [lo_blank_s1]; simp only [lex_blank_q, obind_some]) hn hj
theorem over_line_q {n j : Nat} (hn : s.size < n) (hj : j ≤ s.size) : lo_skip_1_v n s (j : Int) = some (((over notLine s j : Nat) : Int), ()) := by
  rw [lo_skip_1_e]
  exact over_at (F := fun i q => lo_skip_1_l1 n s j i q) hs (fun i q => by rw [lo_skip_1_s1]; simp only [lex_skip_1_q, obind_some]) hn hj
theorem over_plain_q {n j : Nat} (hn : s.size < n) (hj : j ≤ s.size) : lo_quoted_1_v n s (j : Int) = some (((over isPlain s j : Nat) : Int), ()) := by
  rw [lo_quoted_1_e]
  exact over_at (F := fun i q => lo_quoted_1_l1 n s j i q) hs (fun i q => by rw [lo_quoted_1_s1]; simp only [lex_quoted_1_q, obind_some]) hn hj
theorem over_inner_q {n j : Nat} (hn : s.size < n) (hj : j ≤ s.size) : lo_one_1_v n s (j : Int) = some (((over isInner s j : Nat) : Int), ()) := by
  rw [lo_one_1_e]
  exact over_at (F := fun i q => lo_one_1_l1 n s j i q) hs (fun i q => by rw [lo_one_1_s1]; simp only [lex_one_1_q, obind_some]) hn hj
theorem over_digit_q {n j : Nat} (hn : s.size < n) (hj : j ≤ s.size) : lo_digit_v n s (j : Int) = some (((over isDigit s j : Nat) : Int), ()) := by
  rw [lo_digit_e]
  exact over_at (F := fun i q => lo_digit_l1 n s j i q) hs (fun i q => by rw [lo_digit_s1]; simp only [lex_digit_q, obind_some]) hn hj

theorem skip_loop {n : Nat} (hn : s.size < n) (j1 : Int) : ∀ k j : Nat, j + k = s.size → ∀ i, k < i → lex_skip_l1 n s j1 i (j : Int) = some (((skip s j : Nat) : Int), ()) := by
  intro k
  induction k using Nat.strongRecOn with
  | ind k ih =>
    intro j hj i hi
    obtain ⟨i, rfl⟩ : ∃ m, i = m + 1 := ⟨i - 1, by omega⟩
    rw [lex_skip_s1]
    by_cases hlt : j < s.size
    · have h1 : (j : Int) < (s.size : Int) := by omega
      have h0 : (0 : Int) ≤ (j : Int) := by omega
      simp only [h1, h0, decide_true, cond_true, if_true, lex_blank_q, obind_some]
      cases hb : isBlank (bt s (j : Int)) with
      | true =>
        have hg := over_gt hlt hb
        have hl := over_le (p := isBlank) (s := s) (j := j) (by omega)
        simp only [cond_true, over_blank_q hs hn (Nat.le_of_lt hlt), obind_some]
        rw [ih (s.size - over isBlank s j) (by omega) (over isBlank s j) (by omega) i (by omega), ← skip_blank (by omega)]
      | false =>
        simp only [cond_false]
        cases h37 : bt s (j : Int) == 37 with
        | true =>
          have hp : notLine (bt s (j : Int)) = true := by
            have : bt s (j : Int) = 37 := by simpa using h37
            rw [this]; rfl
          have hg := over_gt hlt hp
          have hl := over_le (p := notLine) (s := s) (j := j) (by omega)
          simp only [cond_true, over_line_q hs hn (Nat.le_of_lt hlt), obind_some]
          rw [ih (s.size - over notLine s j) (by omega) (over notLine s j) (by omega) i (by omega), ← skip_note hlt h37]
        | false =>
          simp only [cond_false]
          rw [skip_stop h37 hb]
    · have h1 : ¬ ((j : Int) < (s.size : Int)) := by omega
      simp only [h1, decide_false, cond_false]
      rw [skip_end (by omega)]
theorem lex_skip_q {n j : Nat} (hn : s.size < n) (hj : j ≤ s.size) : lex_skip_v n s (j : Int) = some (((skip s j : Nat) : Int), ()) := by
  rw [lex_skip_e]
  exact skip_loop hs hn j (s.size - j) j (by omega) n (by omega)

end

theorem lex_number_loop {n : Nat} {s0 t : ByteArray} (ht : t.size < big) : ∀ k j : Nat, j + k = t.size → ∀ i m, k < i →
    ∃ v, lex_number_l8 n s0 i t (t.size : Int) m (j : Int) = some ((v, (match numF t k j m with | some q => (bt s0 0 == 45 || q != -9223372036854775808) | none => false, ())), ()) ∧
      ∀ q, numF t k j m = some q → v = bif bt s0 0 == 45 then q else W (0 - q) := by
  intro k
  induction k with
  | zero =>
    intro j hj i m hi
    obtain ⟨i, rfl⟩ : ∃ q, i = q + 1 := ⟨i - 1, by omega⟩
    rw [lex_number_s8]
    have h1 : ¬ ((j : Int) < (t.size : Int)) := by omega
    simp only [h1, decide_false, cond_false, numF]
    cases bt s0 0 == 45 with
    | true => exact ⟨m, rfl, fun q hq => by cases hq; rfl⟩
    | false => exact ⟨W (0 - m), rfl, fun q hq => by cases hq; rfl⟩
  | succ k ih =>
    intro j hj i m hi
    obtain ⟨i, rfl⟩ : ∃ q, i = q + 1 := ⟨i - 1, by omega⟩
    rw [lex_number_s8, wrap_succ (by omega)]
    have h1 : (j : Int) < (t.size : Int) := by omega
    have h0 : (0 : Int) ≤ (j : Int) := by omega
    simp only [h1, h0, decide_true, cond_true, if_true, numF_succ]
    have hd : digitMore m (bt t (j : Int)) = bif decide (m < W (Int.tdiv (W (-9223372036854775808 + W (IntKind.wrap IntKind.u8 (bt t (j : Int) - 48)))) 10)) then none
      else some (W (W (10 * m) - W (IntKind.wrap IntKind.u8 (bt t (j : Int) - 48)))) := by unfold digitMore; rfl
    rw [hd]
    cases decide (m < W (Int.tdiv (W (-9223372036854775808 + W (IntKind.wrap IntKind.u8 (bt t (j : Int) - 48)))) 10)) with
    | true => exact ⟨0, rfl, fun q hq => by cases hq⟩
    | false => exact ih (j + 1) (by omega) i _ (by omega)
end Go.Den
