import Derived.Test.YtbdjanjcphgjdaaGreatDoorZ06
import Derived.Test.YtbdjanjcphgjdaaGreatDoorZ05
set_option linter.unusedVariables false
set_option linter.unusedSimpArgs false
set_option linter.unusedSectionVars false
namespace Go.Den
open Go.Proofs
theorem z73_q (n : Nat) (c : Int) : z73_v n c = some (isSmall c, ()) := by
 rw [z73_e]; unfold isSmall; cases decide (c ≥ 97) <;> rfl
theorem z81_q (n : Nat) (c : Int) : z81_v n c = some (isGreat c, ()) := by
 rw [z81_e]; unfold isGreat; cases decide (c ≥ 65) <;> rfl
theorem z84_q (n : Nat) (c : Int) : z84_v n c = some (isDigit c, ()) := by
 rw [z84_e]; unfold isDigit; cases decide (c ≥ 48) <;> rfl
theorem z72_q (n : Nat) (c : Int) : z72_v n c = some (isBlank c, ()) := by
 rw [z72_e]; unfold isBlank; cases c == 32 <;> cases c == 9 <;> cases c == 10 <;> rfl
theorem z61_q (n : Nat) (c : Int) : z61_v n c = some (notLine c, ()) := by
 rw [z61_e]; rfl
theorem z31_q (n : Nat) (c : Int) : z31_v n c = some (isPlain c, ()) := by
 rw [z31_e]; unfold isPlain; cases decide (c ≥ 32) <;> cases decide (c ≤ 126) <;> cases c != 34 <;> rfl
theorem z78_q (n : Nat) (c : Int) : z78_v n c = some (isInner c, ()) := by
 rw [z78_e]; simp only [z73_q, z81_q, z84_q, obind_some]; unfold isInner; cases isSmall c <;> cases isGreat c <;> cases isDigit c <;> rfl
theorem z42_q (n : Nat) (c : Int) : z42_v n c = some (isSmall c, ()) := by
 rw [z42_e]; unfold isSmall; cases decide (c ≥ 97) <;> rfl
theorem z43_q (n : Nat) (c : Int) : z43_v n c = some (isGreat c, ()) := by
 rw [z43_e]; unfold isGreat; cases decide (c ≥ 65) <;> rfl
theorem z46_q (n : Nat) (c : Int) : z46_v n c = some (isDigit c, ()) := by
 rw [z46_e]; unfold isDigit; cases decide (c ≥ 48) <;> rfl
theorem z34_q (n : Nat) (c : Int) : z34_v n c = some (isPlain c, ()) := by
 rw [z34_e]; unfold isPlain; cases decide (c ≥ 32) <;> cases decide (c ≤ 126) <;> cases c != 34 <;> rfl
theorem z47_q (n : Nat) (c : Int) : z47_v n c = some (isInner c, ()) := by
 rw [z47_e]; simp only [z42_q, z43_q, z46_q, obind_some]; unfold isInner; cases isSmall c <;> cases isGreat c <;> cases isDigit c <;> rfl

section
variable {s : ByteArray} (hs : s.size < big)
include hs
theorem over_blank_q {n j : Nat} (hn : s.size < n) (hj : j ≤ s.size) : z90_v n s (j : Int) = some (((over isBlank s j : Nat) : Int), ()) := by
 rw [z90_e]
 exact over_at (F := fun i q => z90_l1 n s j i q) hs (fun i q => by rw [z90_s1]; simp only [z72_q, obind_some]) hn hj
theorem over_line_q {n j : Nat} (hn : s.size < n) (hj : j ≤ s.size) : z83_v n s (j : Int) = some (((over notLine s j : Nat) : Int), ()) := by
 rw [z83_e]
 exact over_at (F := fun i q => z83_l1 n s j i q) hs (fun i q => by rw [z83_s1]; simp only [z61_q, obind_some]) hn hj
theorem over_plain_q {n j : Nat} (hn : s.size < n) (hj : j ≤ s.size) : z45_v n s (j : Int) = some (((over isPlain s j : Nat) : Int), ()) := by
 rw [z45_e]
 exact over_at (F := fun i q => z45_l1 n s j i q) hs (fun i q => by rw [z45_s1]; simp only [z31_q, obind_some]) hn hj
theorem over_inner_q {n j : Nat} (hn : s.size < n) (hj : j ≤ s.size) : z86_v n s (j : Int) = some (((over isInner s j : Nat) : Int), ()) := by
 rw [z86_e]
 exact over_at (F := fun i q => z86_l1 n s j i q) hs (fun i q => by rw [z86_s1]; simp only [z78_q, obind_some]) hn hj
theorem over_digit_q {n j : Nat} (hn : s.size < n) (hj : j ≤ s.size) : z88_v n s (j : Int) = some (((over isDigit s j : Nat) : Int), ()) := by
 rw [z88_e]
 exact over_at (F := fun i q => z88_l1 n s j i q) hs (fun i q => by rw [z88_s1]; simp only [z84_q, obind_some]) hn hj

theorem skip_loop {n : Nat} (hn : s.size < n) (j1 : Int) : ∀ k j : Nat, j + k = s.size → ∀ i, k < i → z89_l1 n s j1 i (j : Int) = some (((skip s j : Nat) : Int), ()) := by
 intro k
 induction k using Nat.strongRecOn with
 |ind k ih =>
  intro j hj i hi
  obtain ⟨i, rfl⟩ : ∃ m, i = m + 1 := ⟨i - 1, by omega⟩
  rw [z89_s1]
  by_cases hlt : j < s.size
  ·have h1 : (j : Int) < (s.size : Int) := by omega
   have h0 : (0 : Int) ≤ (j : Int) := by omega
   simp only [h1, h0, decide_true, cond_true, if_true, z72_q, obind_some]
   cases hb : isBlank (bt s (j : Int)) with
   |true =>
    have hg := over_gt hlt hb
    have hl := over_le (p := isBlank) (s := s) (j := j) (by omega)
    simp only [cond_true, over_blank_q hs hn (Nat.le_of_lt hlt), obind_some]
    rw [ih (s.size - over isBlank s j) (by omega) (over isBlank s j) (by omega) i (by omega), ← skip_blank (by omega)]
   |false =>
    simp only [cond_false]
    cases h37 : bt s (j : Int) == 37 with
    |true =>
     have hp : notLine (bt s (j : Int)) = true := by
      have : bt s (j : Int) = 37 := by simpa using h37
      rw [this]; rfl
     have hg := over_gt hlt hp
     have hl := over_le (p := notLine) (s := s) (j := j) (by omega)
     simp only [cond_true, over_line_q hs hn (Nat.le_of_lt hlt), obind_some]
     rw [ih (s.size - over notLine s j) (by omega) (over notLine s j) (by omega) i (by omega), ← skip_note hlt h37]
    |false =>
     simp only [cond_false]
     rw [skip_stop h37 hb]
  ·have h1 : ¬ ((j : Int) < (s.size : Int)) := by omega
   simp only [h1, decide_false, cond_false]
   rw [skip_end (by omega)]
theorem z89_q {n j : Nat} (hn : s.size < n) (hj : j ≤ s.size) : z89_v n s (j : Int) = some (((skip s j : Nat) : Int), ()) := by
 rw [z89_e]
 exact skip_loop hs hn j (s.size - j) j (by omega) n (by omega)

end

theorem z67_loop {n : Nat} {s0 t : ByteArray} (ht : t.size < big) : ∀ k j : Nat, j + k = t.size → ∀ i m, k < i →
  ∃ v, z67_l8 n s0 i t (t.size : Int) m (j : Int) = some ((v, (match numF t k j m with | some q => (bt s0 0 == 45 || q != -9223372036854775808) | none => false, ())), ()) ∧
   ∀ q, numF t k j m = some q → v = bif bt s0 0 == 45 then q else W (0 - q) := by
 intro k
 induction k with
 |zero =>
  intro j hj i m hi
  obtain ⟨i, rfl⟩ : ∃ q, i = q + 1 := ⟨i - 1, by omega⟩
  rw [z67_s8]
  have h1 : ¬ ((j : Int) < (t.size : Int)) := by omega
  simp only [h1, decide_false, cond_false, numF]
  cases bt s0 0 == 45 with
  |true => exact ⟨m, rfl, fun q hq => by cases hq; rfl⟩
  |false => exact ⟨W (0 - m), rfl, fun q hq => by cases hq; rfl⟩
 |succ k ih =>
  intro j hj i m hi
  obtain ⟨i, rfl⟩ : ∃ q, i = q + 1 := ⟨i - 1, by omega⟩
  rw [z67_s8, wrap_succ (by omega)]
  have h1 : (j : Int) < (t.size : Int) := by omega
  have h0 : (0 : Int) ≤ (j : Int) := by omega
  simp only [h1, h0, decide_true, cond_true, if_true, numF_succ]
  have hd : digitMore m (bt t (j : Int)) = bif decide (m < W (Int.tdiv (W (-9223372036854775808 + W (IntKind.wrap IntKind.u8 (bt t (j : Int) - 48)))) 10)) then none
   else some (W (W (10 * m) - W (IntKind.wrap IntKind.u8 (bt t (j : Int) - 48)))) := by unfold digitMore; rfl
  rw [hd]
  cases decide (m < W (Int.tdiv (W (-9223372036854775808 + W (IntKind.wrap IntKind.u8 (bt t (j : Int) - 48)))) 10)) with
  |true => exact ⟨0, rfl, fun q hq => by cases hq⟩
  |false => exact ih (j + 1) (by omega) i _ (by omega)
end Go.Den
