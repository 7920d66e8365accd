import Derived.Test.YtefebdknnedioaaLxA
import Derived.Test.YtefebdknnedioaaE08d
import Derived.Test.YtefebdknnedioaaDen26
set_option linter.unusedVariables false
set_option linter.unusedSimpArgs false
set_option linter.unusedSectionVars false
/- The cutting of a text, as the code does it. -/
namespace Go.Den
open Go.Proofs
theorem lex_small_q (n : Nat) (c : Int) : lex_small_v n c = some (isSmall c, ()) := by
  rw [lex_small_e]; unfold isSmall; cases decide (c ≥ 97) <;> rfl
theorem lex_great_q (n : Nat) (c : Int) : lex_great_v n c = some (isGreat c, ()) := by
  rw [lex_great_e]; unfold isGreat; cases decide (c ≥ 65) <;> rfl
theorem lex_digit_q (n : Nat) (c : Int) : lex_digit_v n c = some (isDigit c, ()) := by
  rw [lex_digit_e]; unfold isDigit; cases decide (c ≥ 48) <;> rfl
theorem lex_blank_q (n : Nat) (c : Int) : lex_blank_v n c = some (isBlank c, ()) := by
  rw [lex_blank_e]; unfold isBlank; cases c == 32 <;> cases c == 9 <;> cases c == 10 <;> rfl
theorem lex_skip_1_q (n : Nat) (c : Int) : lex_skip_1_v n c = some (notLine c, ()) := by
  rw [lex_skip_1_e]; rfl
theorem lex_quoted_1_q (n : Nat) (c : Int) : lex_quoted_1_v n c = some (isPlain c, ()) := by
  rw [lex_quoted_1_e]; unfold isPlain; cases decide (c ≥ 32) <;> cases decide (c ≤ 126) <;> cases c != 34 <;> rfl
theorem lex_one_1_q (n : Nat) (c : Int) : lex_one_1_v n c = some (isInner c, ()) := by
  rw [lex_one_1_e]; simp only [lex_small_q, lex_great_q, lex_digit_q, obind_some]; unfold isInner; cases isSmall c <;> cases isGreat c <;> cases isDigit c <;> rfl
theorem ref07_small_q (n : Nat) (c : Int) : ref07_small_v n c = some (isSmall c, ()) := by
  rw [ref07_small_e]; unfold isSmall; cases decide (c ≥ 97) <;> rfl
theorem ref07_great_q (n : Nat) (c : Int) : ref07_great_v n c = some (isGreat c, ()) := by
  rw [ref07_great_e]; unfold isGreat; cases decide (c ≥ 65) <;> rfl
theorem ref07_digit_q (n : Nat) (c : Int) : ref07_digit_v n c = some (isDigit c, ()) := by
  rw [ref07_digit_e]; unfold isDigit; cases decide (c ≥ 48) <;> rfl
theorem ref07_Plain_q (n : Nat) (c : Int) : ref07_Plain_v n c = some (isPlain c, ()) := by
  rw [ref07_Plain_e]; unfold isPlain; cases decide (c ≥ 32) <;> cases decide (c ≤ 126) <;> cases c != 34 <;> rfl
theorem ref07_Inner_q (n : Nat) (c : Int) : ref07_Inner_v n c = some (isInner c, ()) := by
  rw [ref07_Inner_e]; simp only [ref07_small_q, ref07_great_q, ref07_digit_q, obind_some]; unfold isInner; cases isSmall c <;> cases isGreat c <;> cases isDigit c <;> rfl

section
variable {s : ByteArray} (hs : s.size < big)
include hs
theorem over_blank_q {n j : Nat} (hn : s.size < n) (hj : j ≤ s.size) : lex_over_lex_blank_v n s (j : Int) = some (((over isBlank s j : Nat) : Int), ()) := by
  rw [lex_over_lex_blank_e]
  exact over_at (F := fun i q => lex_over_lex_blank_l1 n s j i q) hs (fun i q => by rw [lex_over_lex_blank_s1]; simp only [lex_blank_q, obind_some]) hn hj
theorem over_line_q {n j : Nat} (hn : s.size < n) (hj : j ≤ s.size) : lex_over_lex_skip_1_v n s (j : Int) = some (((over notLine s j : Nat) : Int), ()) := by
  rw [lex_over_lex_skip_1_e]
  exact over_at (F := fun i q => lex_over_lex_skip_1_l1 n s j i q) hs (fun i q => by rw [lex_over_lex_skip_1_s1]; simp only [lex_skip_1_q, obind_some]) hn hj
theorem over_plain_q {n j : Nat} (hn : s.size < n) (hj : j ≤ s.size) : lex_over_lex_quoted_1_v n s (j : Int) = some (((over isPlain s j : Nat) : Int), ()) := by
  rw [lex_over_lex_quoted_1_e]
  exact over_at (F := fun i q => lex_over_lex_quoted_1_l1 n s j i q) hs (fun i q => by rw [lex_over_lex_quoted_1_s1]; simp only [lex_quoted_1_q, obind_some]) hn hj
theorem over_inner_q {n j : Nat} (hn : s.size < n) (hj : j ≤ s.size) : lex_over_lex_one_1_v n s (j : Int) = some (((over isInner s j : Nat) : Int), ()) := by
  rw [lex_over_lex_one_1_e]
  exact over_at (F := fun i q => lex_over_lex_one_1_l1 n s j i q) hs (fun i q => by rw [lex_over_lex_one_1_s1]; simp only [lex_one_1_q, obind_some]) hn hj
theorem over_digit_q {n j : Nat} (hn : s.size < n) (hj : j ≤ s.size) : lex_over_lex_digit_v n s (j : Int) = some (((over isDigit s j : Nat) : Int), ()) := by
  rw [lex_over_lex_digit_e]
  exact over_at (F := fun i q => lex_over_lex_digit_l1 n s j i q) hs (fun i q => by rw [lex_over_lex_digit_s1]; simp only [lex_digit_q, obind_some]) hn hj

theorem skip_loop {n : Nat} (hn : s.size < n) (j1 : Int) : ∀ k j : Nat, j + k = s.size → ∀ i, k < i → lex_skip_l1 n s j1 i (j : Int) = some (((skip s j : Nat) : Int), ()) := by
  intro k
  induction k using Nat.strongRecOn with
  | ind k ih =>
    intro j hj i hi
    obtain ⟨i, rfl⟩ : ∃ m, i = m + 1 := ⟨i - 1, by omega⟩
    rw [lex_skip_s1]
    by_cases hlt : j < s.size
    · have h1 : (j : Int) < (s.size : Int) := by omega
      have h0 : (0 : Int) ≤ (j : Int) := by omega
      simp only [h1, h0, decide_true, cond_true, if_true, lex_blank_q, obind_some]
      cases hb : isBlank (bt s (j : Int)) with
      | true =>
        have hg := over_gt hlt hb
        have hl := over_le (p := isBlank) (s := s) (j := j) (by omega)
        simp only [cond_true, over_blank_q hs hn (Nat.le_of_lt hlt), obind_some]
        rw [ih (s.size - over isBlank s j) (by omega) (over isBlank s j) (by omega) i (by omega), ← skip_blank (by omega)]
      | false =>
        simp only [cond_false]
        cases h37 : bt s (j : Int) == 37 with
        | true =>
          have hp : notLine (bt s (j : Int)) = true := by
            have : bt s (j : Int) = 37 := by simpa using h37
            rw [this]; rfl
          have hg := over_gt hlt hp
          have hl := over_le (p := notLine) (s := s) (j := j) (by omega)
          simp only [cond_true, over_line_q hs hn (Nat.le_of_lt hlt), obind_some]
          rw [ih (s.size - over notLine s j) (by omega) (over notLine s j) (by omega) i (by omega), ← skip_note hlt h37]
        | false =>
          simp only [cond_false]
          rw [skip_stop h37 hb]
    · have h1 : ¬ ((j : Int) < (s.size : Int)) := by omega
      simp only [h1, decide_false, cond_false]
      rw [skip_end (by omega)]
theorem lex_skip_q {n j : Nat} (hn : s.size < n) (hj : j ≤ s.size) : lex_skip_v n s (j : Int) = some (((skip s j : Nat) : Int), ()) := by
  rw [lex_skip_e]
  exact skip_loop hs hn j (s.size - j) j (by omega) n (by omega)

theorem ref_skip_loop {n : Nat} (j1 : Int) : ∀ k j : Nat, j + k = s.size → ∀ i b, k < i → ref07_Skip_l2 n s j1 i (j : Int) b = some (((skipF s k b j : Nat) : Int), ()) := by
  intro k
  induction k with
  | zero =>
    intro j hj i b hi
    obtain ⟨i, rfl⟩ : ∃ m, i = m + 1 := ⟨i - 1, by omega⟩
    rw [ref07_Skip_s2]
    have h1 : ¬ ((j : Int) < (s.size : Int)) := by omega
    simp only [h1, decide_false, cond_false, skipF]
  | succ k ih =>
    intro j hj i b hi
    obtain ⟨i, rfl⟩ : ∃ m, i = m + 1 := ⟨i - 1, by omega⟩
    rw [ref07_Skip_s2]
    have h1 : (j : Int) < (s.size : Int) := by omega
    have h0 : (0 : Int) ≤ (j : Int) := by omega
    rw [wrap_succ (by omega)]
    simp only [h1, h0, decide_true, cond_true, if_true, ih (j + 1) (by omega) i _ (by omega), skipF, isBlank, bne]
    cases h37 : bt s (j : Int) == 37 with
    | true =>
      have : bt s (j : Int) = 37 := by simpa using h37
      rw [this]; rfl
    | false =>
      cases h10 : bt s (j : Int) == 10 with
      | true =>
        have : bt s (j : Int) = 10 := by simpa using h10
        rw [this]; rfl
      | false =>
        cases b <;> cases bt s (j : Int) == 32 <;> cases bt s (j : Int) == 9 <;> cases bt s (j : Int) == 13 <;> rfl
theorem ref_skip_q {n j : Nat} (hn : s.size < n) (hj : j ≤ s.size) : ref07_Skip_v n s (j : Int) = some (((skip s j : Nat) : Int), ()) := by
  rw [ref07_Skip_e]
  exact ref_skip_loop hs j (s.size - j) j (by omega) n false (by omega)
end

/-! numbers -/
theorem lex_number_loop {n : Nat} {s0 t : ByteArray} (ht : t.size < big) : ∀ k j : Nat, j + k = t.size → ∀ i m, k < i →
    ∃ v, lex_number_l8 n s0 i t (t.size : Int) m (j : Int) = some ((v, (match numF t k j m with | some q => (bt s0 0 == 45 || q != -9223372036854775808) | none => false, ())), ()) ∧
      ∀ q, numF t k j m = some q → v = bif bt s0 0 == 45 then q else W (0 - q) := by
  intro k
  induction k with
  | zero =>
    intro j hj i m hi
    obtain ⟨i, rfl⟩ : ∃ q, i = q + 1 := ⟨i - 1, by omega⟩
    rw [lex_number_s8]
    have h1 : ¬ ((j : Int) < (t.size : Int)) := by omega
    simp only [h1, decide_false, cond_false, numF]
    cases bt s0 0 == 45 with
    | true => exact ⟨m, rfl, fun q hq => by cases hq; rfl⟩
    | false => exact ⟨W (0 - m), rfl, fun q hq => by cases hq; rfl⟩
  | succ k ih =>
    intro j hj i m hi
    obtain ⟨i, rfl⟩ : ∃ q, i = q + 1 := ⟨i - 1, by omega⟩
    rw [lex_number_s8, wrap_succ (by omega)]
    have h1 : (j : Int) < (t.size : Int) := by omega
    have h0 : (0 : Int) ≤ (j : Int) := by omega
    simp only [h1, h0, decide_true, cond_true, if_true, numF_succ]
    have hd : digitMore m (bt t (j : Int)) = bif decide (m < W (Int.tdiv (W (-9223372036854775808 + W (IntKind.wrap IntKind.u8 (bt t (j : Int) - 48)))) 10)) then none
      else some (W (W (10 * m) - W (IntKind.wrap IntKind.u8 (bt t (j : Int) - 48)))) := by unfold digitMore; rfl
    rw [hd]
    cases decide (m < W (Int.tdiv (W (-9223372036854775808 + W (IntKind.wrap IntKind.u8 (bt t (j : Int) - 48)))) 10)) with
    | true => exact ⟨0, rfl, fun q hq => by cases hq⟩
    | false => exact ih (j + 1) (by omega) i _ (by omega)
end Go.Den
/- The cutting of a text, as the code does it: numbers, quotations, a token. -/
namespace Go.Den
open Go.Proofs
/-- A number of a whole text. -/
def numT (t : ByteArray) : Option Int :=
  bif bt t 0 == 45 then
    bif decide (t.size ≤ 1) then none
    else bif bt t 1 == 48 then none
    else numF t (t.size - 1) 1 0
  else bif bt t 0 == 48 && decide (t.size > 1) then none
  else match numF t t.size 0 0 with
    | some m => bif m == -9223372036854775808 then none else some (W (0 - m))
    | none => none
theorem size_zero {t : ByteArray} : (t == ByteArray.mk #[]) = decide (t.size = 0) := by
  cases t with | mk d =>
  show (d == #[]) = decide (d.size = 0)
  cases h : d == #[] with
  | true => have := eq_of_beq h; subst this; rfl
  | false =>
    symm; rw [decide_eq_false_iff_not]
    intro h0
    have := Array.eq_empty_of_size_eq_zero h0
    subst this; cases h
theorem lex_number_q {n : Nat} {t : ByteArray} (ht : t.size < big) (h0 : 0 < t.size) (hn : t.size < n) :
    ∃ v, lex_number_v n t = some ((v, ((numT t).isSome, ())), ()) ∧ ∀ q, numT t = some q → v = q := by
  rw [lex_number_e]
  unfold numT
  have h1 : (0 : Int) < (t.size : Int) := by omega
  simp only [h1, if_true, size_zero]
  cases h45 : bt t 0 == 45 with
  | true =>
    have g1 : (1 : Int) ≤ (t.size : Int) := by omega
    have g2 : (t.size : Int) ≤ (t.size : Int) := Int.le_refl _
    simp only [g1, g2, if_true, cond_true, Int.toNat_natCast]
    have e1 : (t.extract 1 t.size).size = t.size - 1 := size_ext (by omega) (Nat.le_refl _)
    by_cases hle : t.size ≤ 1
    · simp only [e1, hle, decide_true, cond_true, show t.size - 1 = 0 from by omega]
      exact ⟨_, rfl, fun q hq => by cases hq⟩
    · have g3 : ¬ (t.size - 1 = 0) := by omega
      have g4 : (0 : Int) < ((t.size - 1 : Nat) : Int) := by omega
      have b0 : bt (t.extract 1 t.size) 0 = bt t 1 := by
        have := bt_ext (s := t) (a := 1) (b := t.size) (k := 0) (by omega) (Nat.le_refl _)
        simpa using this
      simp only [e1, g3, g4, hle, decide_false, cond_false, if_true, b0]
      cases h48 : bt t 1 == 48 with
      | true => exact ⟨0, rfl, fun q hq => by cases hq⟩
      | false =>
        simp only [cond_false]
        have hsz : (t.extract 1 t.size).size < big := by omega
        obtain ⟨v, hv, hq⟩ := lex_number_loop (n := n) (s0 := t) hsz (t.size - 1) 0 (by omega) n 0 (by omega)
        have hc : numF (t.extract 1 t.size) (t.size - 1) 0 0 = numF t (t.size - 1) 1 0 :=
          numF_congr _ fun i hi => by rw [Nat.zero_add]; exact bt_ext (by omega) (Nat.le_refl _)
        rw [e1] at hv
        rw [hc] at hv hq
        rw [h45] at hv hq
        refine ⟨v, ?_, fun q h => by rw [hq q h]; rfl⟩
        first
          | (rw [show ((0 : Nat) : Int) = 0 from rfl] at hv; rw [hv]; cases numF t (t.size - 1) 1 0 <;> rfl)
  | false =>
    have g3 : ¬ (t.size = 0) := by omega
    simp only [g3, decide_false, cond_false]
    have hdec : decide ((t.size : Int) > 1) = decide (t.size > 1) := by
      by_cases h : t.size > 1
      · have : (t.size : Int) > 1 := by omega
        simp [h, this]
      · have : ¬ (t.size : Int) > 1 := by omega
        simp [h, this]
    obtain ⟨v, hv, hq⟩ := lex_number_loop (n := n) (s0 := t) ht t.size 0 (by omega) n 0 hn
    rw [h45] at hv hq
    rw [show ((0 : Nat) : Int) = 0 from rfl] at hv
    have fin : ∃ v, lex_number_l8 n t n t (t.size : Int) 0 0 = some ((v, ((match numF t t.size 0 0 with
          | some m => bif m == -9223372036854775808 then none else some (W (0 - m))
          | none => none : Option Int).isSome, ())), ()) ∧ ∀ q, (match numF t t.size 0 0 with
          | some m => bif m == -9223372036854775808 then none else some (W (0 - m))
          | none => none : Option Int) = some q → v = q := by
      refine ⟨v, ?_, ?_⟩
      · rw [hv]
        cases numF t t.size 0 0 with
        | none => rfl
        | some m => simp only [Bool.false_or, bne]; cases m == -9223372036854775808 <;> rfl
      · intro q h
        cases hm : numF t t.size 0 0 with
        | none => rw [hm] at h; cases h
        | some m =>
          rw [hm] at h
          simp only at h
          rw [hq m hm]
          cases hb : m == -9223372036854775808 with
          | true => rw [hb] at h; cases h
          | false => rw [hb] at h; cases h; rfl
    cases h48 : bt t 0 == 48 with
    | true =>
      simp only [cond_true, hdec, Bool.true_and]
      by_cases h2 : t.size > 1
      · simp only [h2, decide_true, cond_true]; exact ⟨0, rfl, fun q hq => by cases hq⟩
      · simp only [h2, decide_false, cond_false]; exact fin
    | false =>
      simp only [cond_false, Bool.false_and]
      exact fin
theorem numT_ext {s : ByteArray} {a e : Nat} (h1 : a < e) (h2 : e ≤ s.size) : numT (s.extract a e) = numS s a e := by
  unfold numT numS
  have e1 : (s.extract a e).size = e - a := size_ext (by omega) h2
  have b0 : bt (s.extract a e) 0 = bt s (a : Int) := by
    have := bt_ext (s := s) (a := a) (b := e) (k := 0) (by omega) h2
    simpa using this
  rw [e1, b0]
  have d1 : decide (e - a ≤ 1) = decide (e ≤ a + 1) := by
    by_cases h : e ≤ a + 1
    · have : e - a ≤ 1 := by omega
      simp [h, this]
    · have : ¬ e - a ≤ 1 := by omega
      simp [h, this]
  have d2 : decide (e - a > 1) = decide (e > a + 1) := by
    by_cases h : e > a + 1
    · have : e - a > 1 := by omega
      simp [h, this]
    · have : ¬ e - a > 1 := by omega
      simp [h, this]
  rw [d1, d2]
  have c0 : numF (s.extract a e) (e - a) 0 0 = numF s (e - a) a 0 :=
    numF_congr _ fun i hi => by rw [Nat.zero_add]; exact bt_ext (by omega) h2
  rw [c0]
  by_cases hle : e ≤ a + 1
  · simp only [hle, decide_true, cond_true]
    cases numF s (e - a) a 0 <;> rfl
  · have b1 : bt (s.extract a e) 1 = bt s ((a + 1 : Nat) : Int) := by
      have := bt_ext (s := s) (a := a) (b := e) (k := 1) (by omega) h2
      simpa using this
    have c1 : numF (s.extract a e) (e - a - 1) 1 0 = numF s (e - (a + 1)) (a + 1) 0 := by
      rw [show e - a - 1 = e - (a + 1) from by omega]
      exact numF_congr _ fun i hi => by
        rw [bt_ext (s := s) (by omega) h2, show a + (1 + i) = a + 1 + i from by omega]
    rw [b1, c1]
    cases numF s (e - a) a 0 <;> rfl

section
variable {s : ByteArray} (hs : s.size < big)
include hs
theorem lex_quoted_q {n j : Nat} (hn : s.size < n) (hj : j < s.size) :
    lex_quoted_v n s (j : Int) = bif decide (over isPlain s (j + 1) < s.size) && bt s ((over isPlain s (j + 1) : Nat) : Int) == 34 then
      some ((s.extract (j + 1) (over isPlain s (j + 1)), (((over isPlain s (j + 1) + 1 : Nat) : Int), (true, ()))), ())
    else some ((ByteArray.mk #[], (0, (false, ()))), ()) := by
  rw [lex_quoted_e, wrap_succ (by omega), over_plain_q hs hn (by omega)]
  simp only [obind_some]
  have hl := over_le (p := isPlain) (s := s) (j := j + 1) (by omega)
  generalize over isPlain s (j + 1) = e at hl ⊢
  by_cases he : e < s.size
  · have h1 : ¬ ((e : Int) ≥ (s.size : Int)) := by omega
    have h2 : (0 : Int) ≤ (e : Int) := by omega
    have h3 : (e : Int) < (s.size : Int) := by omega
    have h4 : (0 : Int) ≤ ((j + 1 : Nat) : Int) := by omega
    have h5 : ((j + 1 : Nat) : Int) ≤ (e : Int) := by omega
    have h6 : (e : Int) ≤ (s.size : Int) := by omega
    rw [wrap_succ (by omega)]
    simp only [h1, h2, h3, h4, h5, h6, he, decide_false, decide_true, cond_false, if_true, Bool.true_and, bne, Int.toNat_natCast]
    cases bt s (e : Int) == 34 <;> rfl
  · have h1 : ((e : Int) ≥ (s.size : Int)) := by omega
    simp only [h1, he, decide_true, decide_false, cond_true, Bool.false_and, cond_false]

/-- what lex.one tells -/
theorem lex_one_q {n j : Nat} (hn : s.size < n) (hj : j < s.size) :
    match oneS s j with
    | some (k, x, v, e) => (if x.size > 32 then ∃ t, lex_one_v n s (j : Int) = some ((t, (0, (71, ()))), ()) else lex_one_v n s (j : Int) = some (((k, (x, (v, ((j : Int), ())))), ((e : Int), (0, ()))), ()))
    | none => ∃ t, lex_one_v n s (j : Int) = some ((t, (0, (70, ()))), ()) := by
  rw [lex_one_e]
  unfold oneS
  have h1 : (0 : Int) ≤ (j : Int) := by omega
  have h2 : (j : Int) < (s.size : Int) := by omega
  have w1 : IntKind.wrap IntKind.i64 ((j : Int) + 1) = ((j + 1 : Nat) : Int) := wrap_succ (by omega)
  have li := over_le (p := isInner) (s := s) (j := j) (by omega)
  have ld := over_le (p := isDigit) (s := s) (j := j + 1) (by omega)
  simp only [h1, h2, if_true, w1, lex_small_q, lex_great_q, lex_digit_q, obind_some, over_inner_q hs hn (Nat.le_of_lt hj), over_digit_q hs hn (show j + 1 ≤ s.size from hj), lex_quoted_q hs hn hj]
  have i1 : (j : Int) ≤ ((over isInner s j : Nat) : Int) := by omega
  have i2 : ((over isInner s j : Nat) : Int) ≤ (s.size : Int) := by omega
  have i3 : (j : Int) ≤ ((over isDigit s (j + 1) : Nat) : Int) := by omega
  have i4 : ((over isDigit s (j + 1) : Nat) : Int) ≤ (s.size : Int) := by omega
  have big32 : ∀ x : ByteArray, decide ((x.size : Int) > 32) = decide (x.size > 32) := fun x => by
    by_cases h : x.size > 32
    · have : (x.size : Int) > 32 := by omega
      simp [h, this]
    · have : ¬ (x.size : Int) > 32 := by omega
      simp [h, this]
  simp only [i1, i2, i3, i4, if_true, Int.toNat_natCast, big32]
  have word : ∀ kd : Int, ∀ r : Option ((((Int × ByteArray × Int × Int × Unit) × Int × Int × Unit)) × Unit),
      r = (bif decide ((s.extract j (over isInner s j)).size > 32) then some (((kd, (s.extract j (over isInner s j), (0, ((j : Int), ())))), (0, (71, ()))), ())
        else some (((kd, (s.extract j (over isInner s j), (0, ((j : Int), ())))), (((over isInner s j : Nat) : Int), (0, ()))), ())) →
      (if (s.extract j (over isInner s j)).size > 32 then ∃ t, r = some ((t, (0, (71, ()))), ()) else r = some (((kd, (s.extract j (over isInner s j), (0, ((j : Int), ())))), (((over isInner s j : Nat) : Int), (0, ()))), ())) := by
    intro kd r hr
    by_cases h : (s.extract j (over isInner s j)).size > 32
    · rw [if_pos h, hr]; simp only [h, decide_true, cond_true]; exact ⟨_, rfl⟩
    · rw [if_neg h, hr]; simp only [h, decide_false, cond_false]
  cases hsm : isSmall (bt s (j : Int)) with
  | true => simp only [cond_true]; exact word 1 _ rfl
  | false =>
  simp only [cond_false]
  cases hgr : isGreat (bt s (j : Int)) with
  | true => simp only [cond_true]; exact word 2 _ rfl
  | false =>
  simp only [cond_false]
  have e1 : (s.extract j (over isDigit s (j + 1))).size = over isDigit s (j + 1) - j := size_ext (by omega) ld.2
  obtain ⟨v, hv, hq⟩ := lex_number_q (n := n) (t := s.extract j (over isDigit s (j + 1))) (by omega) (by omega) (by omega)
  rw [numT_ext (by omega) ld.2] at hv hq
  simp only [hv, obind_some]
  have num : ∀ r : Option ((((Int × ByteArray × Int × Int × Unit) × Int × Int × Unit)) × Unit),
      r = (bif (!(numS s j (over isDigit s (j + 1))).isSome) then some (((0, (ByteArray.mk #[], (0, ((j : Int), ())))), (0, (70, ()))), ())
        else some (((3, (ByteArray.mk #[], (v, ((j : Int), ())))), (((over isDigit s (j + 1) : Nat) : Int), (0, ()))), ())) →
      (match (match numS s j (over isDigit s (j + 1)) with
        | some m => some ((3 : Int), ByteArray.mk #[], m, over isDigit s (j + 1))
        | none => none) with
      | some (k, x, v, e) => (if x.size > 32 then ∃ t, r = some ((t, (0, (71, ()))), ()) else r = some (((k, (x, (v, ((j : Int), ())))), ((e : Int), (0, ()))), ()))
      | none => ∃ t, r = some ((t, (0, (70, ()))), ())) := by
    intro r hr
    cases hm : numS s j (over isDigit s (j + 1)) with
    | none =>
      rw [hm] at hr
      exact ⟨_, hr⟩
    | some m =>
      rw [hm] at hr
      have := hq m hm
      subst this
      simp only
      rw [if_neg (by decide)]
      exact hr
  cases hdi : isDigit (bt s (j : Int)) with
  | true => simp only [cond_true, Bool.true_or]; exact num _ rfl
  | false =>
  simp only [cond_false, Bool.false_or]
  cases h45 : bt s (j : Int) == 45 with
  | true => simp only [cond_true]; exact num _ rfl
  | false =>
  simp only [cond_false]
  cases h34 : bt s (j : Int) == 34 with
  | true =>
    simp only [cond_true]
    cases hc : (decide (over isPlain s (j + 1) < s.size) && bt s ((over isPlain s (j + 1) : Nat) : Int) == 34) with
    | false => simp only [cond_false, obind_some, Bool.not_false, cond_true]; exact ⟨_, rfl⟩
    | true =>
      simp only [cond_true, obind_some, Bool.not_true, cond_false]
      by_cases h : (s.extract (j + 1) (over isPlain s (j + 1))).size > 32
      · rw [if_pos h]; simp only [h, decide_true, cond_true]; exact ⟨_, rfl⟩
      · rw [if_neg h]; simp only [h, decide_false, cond_false]
  | false =>
  simp only [cond_false]
  have k2 : (j : Int) ≤ ((j + 1 : Nat) : Int) := by omega
  have k3 : ((j + 1 : Nat) : Int) ≤ (s.size : Int) := by omega
  have k4 : (0 : Int) ≤ ((j + 1 : Nat) : Int) := by omega
  have x1 : ¬ (s.extract j (j + 1)).size > 32 := by rw [size_ext (by omega) hj]; omega
  have hlt : decide (((j + 1 : Nat) : Int) < (s.size : Int)) = decide (j + 1 < s.size) := decide_eq_decide.2 (by omega)
  simp only [k2, k3, k4, if_true, x1, decide_false, cond_false, if_false, hlt]
  cases h58 : bt s (j : Int) == 58 with
  | true =>
    have hb : bt s (j : Int) = 58 := by simpa using h58
    simp only [cond_true, Bool.true_and, hb]
    by_cases hl : j + 1 < s.size
    · have k1 : ((j + 1 : Nat) : Int) < (s.size : Int) := by omega
      have w2 : IntKind.wrap IntKind.i64 (((j + 1 : Nat) : Int) + 1) = ((j + 2 : Nat) : Int) := wrap_succ (by omega)
      have k5 : (j : Int) ≤ ((j + 2 : Nat) : Int) := by omega
      have k6 : ((j + 2 : Nat) : Int) ≤ (s.size : Int) := by omega
      have x2 : ¬ (s.extract j (j + 2)).size > 32 := by rw [size_ext (by omega) (by omega)]; omega
      simp only [hl, decide_true, cond_true, k1, if_true, Bool.true_and, w2, k5, k6, Int.toNat_natCast, x2, decide_false, cond_false]
      cases h45' : bt s ((j + 1 : Nat) : Int) == 45 with
      | true => simp only [cond_true, x2, if_false]
      | false => simp only [Int.reduceBEq, Bool.or_self, Bool.or_true, Bool.false_or, cond_true, cond_false, x1, if_false]
    · simp only [hl, decide_false, Bool.false_and, Int.reduceBEq, Bool.or_self, Bool.or_true, Bool.false_or, cond_true, cond_false, x1, if_false]
  | false =>
    simp only [cond_false, Bool.false_and, Bool.or_false]
    cases bt s (j : Int) == 40 <;> cases bt s (j : Int) == 41 <;> cases bt s (j : Int) == 44 <;> cases bt s (j : Int) == 46 <;> simp only [Bool.or_self, Bool.or_true, Bool.true_or, Bool.false_or, Bool.or_false, cond_true, cond_false, x1, if_false] <;> exact ⟨_, rfl⟩
end
end Go.Den
/- The cutting of a text, as the document has it. -/
namespace Go.Den
open Go.Proofs
abbrev TokOut := Option (((Int × ByteArray × Int × Int × Unit) × Int × Unit) × Unit)
def tokFail : TokOut := some (((0, (ByteArray.mk #[], (0, (0, ())))), (-1, ())), ())
def tokAns (j e : Nat) : Option Int → TokOut
  | some v => some (((3, (ByteArray.mk #[], (v, ((j : Int), ())))), ((e : Int), ())), ())
  | none => tokFail
section
variable {s : ByteArray} (hs : s.size < big)
include hs
theorem ref_number_loop {n : Nat} {j f e : Nat} (hf : f < s.size) (hjf : j ≤ f) (he : e ≤ s.size) (hin : ∀ i, f ≤ i → i < e → isDigit (bt s (i : Int)) = true) (hout : e < s.size → isDigit (bt s (e : Int)) = false) :
    ∀ k q : Nat, q + k = e → f ≤ q → ∀ i m, s.size - q < i →
    ref07_number_l6 n s (j : Int) i (q : Int) (f : Int) m = tokAns j e (match numF s k q m with
      | none => none
      | some r => bif decide (e = f) then none else bif bt s (f : Int) == 48 && (decide (e > f + 1) || decide (f > j)) then none
        else bif decide (f = j) then (bif r == -9223372036854775808 then none else some (W (0 - r))) else some r) := by
  intro k
  have w1 : IntKind.wrap IntKind.i64 ((f : Int) + 1) = ((f + 1 : Nat) : Int) := wrap_succ (by omega)
  have d1 : ((e : Int) == (f : Int)) = decide (e = f) := by
    by_cases h : e = f
    · subst h; simp
    · have : ¬ (e : Int) = (f : Int) := by omega
      rw [decide_eq_false h]; simpa using this
  have d2 : decide ((e : Int) > ((f + 1 : Nat) : Int)) = decide (e > f + 1) := decide_eq_decide.2 (by omega)
  have d3 : decide ((f : Int) > (j : Int)) = decide (f > j) := decide_eq_decide.2 (by omega)
  have d4 : ((f : Int) == (j : Int)) = decide (f = j) := by
    by_cases h : f = j
    · subst h; simp
    · have : ¬ (f : Int) = (j : Int) := by omega
      rw [decide_eq_false h]; simpa using this
  have f1 : (0 : Int) ≤ (f : Int) := by omega
  have f2 : (f : Int) < (s.size : Int) := by omega
  induction k with
  | zero =>
    intro q hq hfq i m hi
    obtain rfl : q = e := by omega
    obtain ⟨i, rfl⟩ : ∃ z, i = z + 1 := ⟨i - 1, by omega⟩
    rw [ref07_number_s6]
    simp only [w1, d1, d2, d3, d4, f1, f2, if_true, ref07_digit_q, obind_some, numF]
    by_cases hlt : q < s.size
    · have h1 : (q : Int) < (s.size : Int) := by omega
      have h0 : (0 : Int) ≤ (q : Int) := by omega
      simp only [h1, h0, if_true, decide_true, cond_true, hout hlt, cond_false]
      cases decide (q = f) <;> cases bt s (f : Int) == 48 <;> cases decide (q > f + 1) <;> cases decide (f > j) <;> cases decide (f = j) <;> cases m == -9223372036854775808 <;> rfl
    · have h1 : ¬ ((q : Int) < (s.size : Int)) := by omega
      simp only [h1, decide_false, cond_false]
      cases decide (q = f) <;> cases bt s (f : Int) == 48 <;> cases decide (q > f + 1) <;> cases decide (f > j) <;> cases decide (f = j) <;> cases m == -9223372036854775808 <;> rfl
  | succ k ih =>
    intro q hq hfq i m hi
    obtain ⟨i, rfl⟩ : ∃ z, i = z + 1 := ⟨i - 1, by omega⟩
    rw [ref07_number_s6, wrap_succ (show q < big by omega)]
    have h1 : (q : Int) < (s.size : Int) := by omega
    have h0 : (0 : Int) ≤ (q : Int) := by omega
    simp only [h1, h0, if_true, decide_true, cond_true, ref07_digit_q, obind_some, hin q hfq (by omega), numF_succ]
    have hd : digitMore m (bt s (q : Int)) = bif decide (m < W (Int.tdiv (W (-9223372036854775808 + W (IntKind.wrap IntKind.u8 (bt s (q : Int) - 48)))) 10)) then none
      else some (W (W (10 * m) - W (IntKind.wrap IntKind.u8 (bt s (q : Int) - 48)))) := by unfold digitMore; rfl
    rw [hd]
    cases decide (m < W (Int.tdiv (W (-9223372036854775808 + W (IntKind.wrap IntKind.u8 (bt s (q : Int) - 48)))) 10)) with
    | true => rfl
    | false => exact ih (q + 1) (by omega) (by omega) i _ (by omega)
theorem ref_number_q {n j : Nat} (hn : s.size < n) (hj : j < s.size) (hc : isDigit (bt s (j : Int)) = true ∨ (bt s (j : Int) == 45) = true) :
    ref07_number_v n s (j : Int) = tokAns j (over isDigit s (j + 1)) (numS s j (over isDigit s (j + 1))) := by
  rw [ref07_number_e]
  have h1 : (j : Int) < (s.size : Int) := by omega
  have h0 : (0 : Int) ≤ (j : Int) := by omega
  have ld := over_le (p := isDigit) (s := s) (j := j + 1) (by omega)
  have hin : ∀ i, j + 1 ≤ i → i < over isDigit s (j + 1) → isDigit (bt s (i : Int)) = true := fun i a b => over_in isDigit s _ _ i a b
  have hout : over isDigit s (j + 1) < s.size → isDigit (bt s ((over isDigit s (j + 1) : Nat) : Int)) = false := fun h => over_out isDigit s _ _ (by show over isDigit s (j + 1) < _; omega)
  generalize over isDigit s (j + 1) = e at ld hin hout ⊢
  rw [wrap_succ (by omega)]
  simp only [h1, h0, if_true]
  unfold numS
  cases h45 : bt s (j : Int) == 45 with
  | true =>
    simp only [cond_true]
    by_cases hlt : j + 1 < s.size
    · rw [ref_number_loop hs (n := n) (j := j) (f := j + 1) (e := e) hlt (by omega) ld.2 hin hout (e - (j + 1)) (j + 1) (by omega) (Nat.le_refl _) n 0 (by omega)]
      congr 1
      by_cases h2 : e ≤ j + 1
      · have : e = j + 1 := by omega
        subst this
        simp only [Nat.le_refl, decide_true, cond_true]
        cases numF s (j + 1 - (j + 1)) (j + 1) 0 <;> rfl
      · have g1 : ¬ e = j + 1 := by omega
        have g2 : j + 1 > j := by omega
        have g3 : ¬ j + 1 = j := by omega
        simp only [h2, g1, g2, g3, decide_false, decide_true, cond_false, Bool.or_true, Bool.and_true]
        cases numF s (e - (j + 1)) (j + 1) 0 <;> cases bt s ((j + 1 : Nat) : Int) == 48 <;> rfl
    · obtain ⟨m, rfl⟩ : ∃ z, n = z + 1 := ⟨n - 1, by omega⟩
      rw [ref07_number_s6]
      have g1 : ¬ (((j + 1 : Nat) : Int) < (s.size : Int)) := by omega
      have g2 : e ≤ j + 1 := by omega
      simp only [g1, decide_false, cond_false, beq_self_eq_true, cond_true, g2, decide_true]
      rfl
  | false =>
    have hd : isDigit (bt s (j : Int)) = true := by
      rcases hc with h | h
      · exact h
      · rw [h45] at h; cases h
    simp only [cond_false]
    rw [ref_number_loop hs (n := n) (j := j) (f := j) (e := e) hj (Nat.le_refl _) ld.2 (fun i a b => by
      by_cases hi : i = j
      · subst hi; exact hd
      · exact hin i (by omega) b) hout (e - j) j (by omega) (Nat.le_refl _) n 0 (by omega)]
    congr 1
    have g1 : ¬ e = j := by omega
    have g2 : ¬ j > j := by omega
    simp only [g1, g2, decide_false, decide_true, cond_false, cond_true, Bool.or_false]
    cases numF s (e - j) j 0 <;> cases bt s (j : Int) == 48 <;> cases decide (e > j + 1) <;> rfl
theorem ref_quote_q {n j : Nat} (hn : s.size < n) (hj : j < s.size) :
    ref07_quote_v n s (j : Int) = bif decide (over isPlain s (j + 1) < s.size) && bt s ((over isPlain s (j + 1) : Nat) : Int) == 34 then
      some (((4, (s.extract (j + 1) (over isPlain s (j + 1)), (0, ((j : Int), ())))), (((over isPlain s (j + 1) + 1 : Nat) : Int), ())), ())
    else tokFail := by
  rw [ref07_quote_e, wrap_succ (by omega)]
  have hl := over_le (p := isPlain) (s := s) (j := j + 1) (by omega)
  have hout : over isPlain s (j + 1) < s.size → isPlain (bt s ((over isPlain s (j + 1) : Nat) : Int)) = false := fun h => over_out isPlain s _ _ (by show over isPlain s (j + 1) < _; omega)
  obtain ⟨i, hi⟩ := run_over (F := fun i q => ref07_quote_l2 n s (j : Int) i q) (s := s) (p := isPlain) (fun i q hq hp => by
    show ref07_quote_l2 n s (j : Int) (i + 1) (q : Int) = _
    rw [ref07_quote_s2]
    have h1 : (q : Int) < (s.size : Int) := by omega
    have h0 : (0 : Int) ≤ (q : Int) := by omega
    simp only [h1, h0, if_true, decide_true, cond_true, ref07_Plain_q, obind_some, hp, wrap_succ (show q < big by omega)]) hn (show j + 1 ≤ s.size by omega)
  refine hi.trans ?_
  show ref07_quote_l2 n s (j : Int) (i + 1) ((over isPlain s (j + 1) : Nat) : Int) = _
  generalize over isPlain s (j + 1) = e at hl hout ⊢
  rw [ref07_quote_s2, wrap_succ (show j < big by omega), wrap_succ (show e < big by omega)]
  have h0 : (0 : Int) ≤ (e : Int) := by omega
  have k1 : (0 : Int) ≤ ((j + 1 : Nat) : Int) := by omega
  have k2 : ((j + 1 : Nat) : Int) ≤ (e : Int) := by omega
  have k3 : (e : Int) ≤ (s.size : Int) := by omega
  by_cases he : e < s.size
  · have h1 : (e : Int) < (s.size : Int) := by omega
    have h2 : ¬ (e : Int) ≥ (s.size : Int) := by omega
    simp only [h1, h0, h2, k1, k2, k3, he, if_true, decide_true, decide_false, cond_true, cond_false, ref07_Plain_q, obind_some, hout he, Bool.true_and, bne, Int.toNat_natCast]
    cases bt s (e : Int) == 34 <;> rfl
  · have h1 : ¬ (e : Int) < (s.size : Int) := by omega
    have h2 : (e : Int) ≥ (s.size : Int) := by omega
    simp only [h1, h2, he, decide_true, decide_false, cond_true, cond_false, Bool.false_and]
    rfl

def oneAns (j : Nat) : Option (Int × ByteArray × Int × Nat) → TokOut
  | some (k, x, v, e) => some (((k, (x, (v, ((j : Int), ())))), ((e : Int), ())), ())
  | none => tokFail
theorem extract2 {j : Nat} (hj : j + 2 ≤ s.size) (h1 : bt s (j : Int) = 58) (h2 : bt s ((j + 1 : Nat) : Int) = 45) : s.extract j (j + 2) = ByteArray.mk #[58, 45] := by
  have e1 : (s.extract j (j + 2)).size = 2 := by rw [size_ext (by omega) hj]; omega
  have b0 := bt_ext (s := s) (a := j) (b := j + 2) (k := 0) (by omega) hj
  have b1 := bt_ext (s := s) (a := j) (b := j + 2) (k := 1) (by omega) hj
  rw [show ((j + 0 : Nat) : Int) = (j : Int) from rfl, h1] at b0
  rw [h2] at b1
  generalize s.extract j (j + 2) = t at e1 b0 b1
  obtain ⟨⟨d⟩⟩ := t
  match d, e1 with
  | [a, b], _ =>
    have c0 : ((a.toNat : Nat) : Int) = 58 := b0
    have c1 : ((b.toNat : Nat) : Int) = 45 := b1
    have a0 : a = 58 := UInt8.toNat_inj.1 (by show a.toNat = 58; omega)
    have a1 : b = 45 := UInt8.toNat_inj.1 (by show b.toNat = 45; omega)
    rw [a0, a1]
theorem ref_one_q {n j : Nat} (hn : s.size < n) (hj : j < s.size) : ref07_One_v n s (j : Int) = oneAns j (oneS s j) := by
  rw [ref07_One_e]
  unfold oneS
  have h1 : (0 : Int) ≤ (j : Int) := by omega
  have h2 : (j : Int) < (s.size : Int) := by omega
  have w1 : IntKind.wrap IntKind.i64 ((j : Int) + 1) = ((j + 1 : Nat) : Int) := wrap_succ (by omega)
  have li := over_le (p := isInner) (s := s) (j := j) (by omega)
  have hout : over isInner s j < s.size → isInner (bt s ((over isInner s j : Nat) : Int)) = false := fun h => over_out isInner s _ _ (by show over isInner s j < _; omega)
  obtain ⟨i, hi⟩ := run_over (F := fun i q => ref07_One_l4 n s (j : Int) i q) (s := s) (p := isInner) (fun i q hq hp => by
    show ref07_One_l4 n s (j : Int) (i + 1) (q : Int) = _
    rw [ref07_One_s4]
    have h1 : (q : Int) < (s.size : Int) := by omega
    have h0 : (0 : Int) ≤ (q : Int) := by omega
    simp only [h1, h0, if_true, decide_true, cond_true, ref07_Inner_q, obind_some, hp, wrap_succ (show q < big by omega)]) hn (show j ≤ s.size by omega)
  have hi' : ref07_One_l4 n s (j : Int) n (j : Int) = ref07_One_l4 n s (j : Int) (i + 1) ((over isInner s j : Nat) : Int) := hi
  have word : ref07_One_l4 n s (j : Int) n (j : Int) = some ((((bif isGreat (bt s (j : Int)) then 2 else 1), (s.extract j (over isInner s j), (0, ((j : Int), ())))), (((over isInner s j : Nat) : Int), ())), ()) := by
    rw [hi']
    generalize over isInner s j = e at li hout ⊢
    rw [ref07_One_s4]
    have h0 : (0 : Int) ≤ (e : Int) := by omega
    have k2 : (j : Int) ≤ (e : Int) := by omega
    have k3 : (e : Int) ≤ (s.size : Int) := by omega
    by_cases he : e < s.size
    · have g1 : (e : Int) < (s.size : Int) := by omega
      simp only [g1, h0, h1, h2, k2, k3, if_true, decide_true, cond_true, ref07_Inner_q, ref07_great_q, obind_some, hout he, cond_false, Int.toNat_natCast]
      cases isGreat (bt s (j : Int)) <;> rfl
    · have g1 : ¬ (e : Int) < (s.size : Int) := by omega
      simp only [g1, h1, h2, k2, k3, if_true, decide_false, cond_false, ref07_great_q, obind_some, Int.toNat_natCast]
      cases isGreat (bt s (j : Int)) <;> rfl
  simp only [h1, h2, if_true, w1, ref07_small_q, ref07_great_q, ref07_digit_q, obind_some, ref_quote_q hs hn hj, word]
  cases hsm : isSmall (bt s (j : Int)) with
  | true =>
    have : isGreat (bt s (j : Int)) = false := by
      unfold isSmall at hsm; unfold isGreat
      simp only [Bool.and_eq_true, decide_eq_true_eq] at hsm
      have : ¬ bt s (j : Int) ≤ 90 := by omega
      simp [this]
    simp only [cond_true, this, cond_false]; rfl
  | false =>
  simp only [cond_false]
  cases hgr : isGreat (bt s (j : Int)) with
  | true => simp only [cond_true]; rfl
  | false =>
  simp only [cond_false]
  have num : (isDigit (bt s (j : Int)) = true ∨ (bt s (j : Int) == 45) = true) → ref07_number_v n s (j : Int) = oneAns j (match numS s j (over isDigit s (j + 1)) with
      | some m => some (3, ByteArray.mk #[], m, over isDigit s (j + 1))
      | none => none) := by
    intro h
    rw [ref_number_q hs hn hj h]
    cases numS s j (over isDigit s (j + 1)) <;> rfl
  cases hdi : isDigit (bt s (j : Int)) with
  | true =>
    simp only [cond_true, Bool.true_or, num (.inl hdi)]
    cases numS s j (over isDigit s (j + 1)) <;> rfl
  | false =>
  simp only [cond_false, Bool.false_or]
  cases h45 : bt s (j : Int) == 45 with
  | true =>
    simp only [cond_true, num (.inr h45)]
    cases numS s j (over isDigit s (j + 1)) <;> rfl
  | false =>
  simp only [cond_false]
  cases h34 : bt s (j : Int) == 34 with
  | true =>
    simp only [cond_true]
    cases (decide (over isPlain s (j + 1) < s.size) && bt s ((over isPlain s (j + 1) : Nat) : Int) == 34) <;> rfl
  | false =>
  simp only [cond_false]
  have k2 : (j : Int) ≤ ((j + 1 : Nat) : Int) := by omega
  have k3 : ((j + 1 : Nat) : Int) ≤ (s.size : Int) := by omega
  have k4 : (0 : Int) ≤ ((j + 1 : Nat) : Int) := by omega
  have hlt : decide (((j + 1 : Nat) : Int) < (s.size : Int)) = decide (j + 1 < s.size) := decide_eq_decide.2 (by omega)
  simp only [k2, k3, k4, if_true, hlt, Int.toNat_natCast]
  cases h58 : bt s (j : Int) == 58 with
  | true =>
    have hb : bt s (j : Int) = 58 := by simpa using h58
    simp only [cond_true, Bool.true_and, hb]
    by_cases hl : j + 1 < s.size
    · have k1 : ((j + 1 : Nat) : Int) < (s.size : Int) := by omega
      have w2 : IntKind.wrap IntKind.i64 ((j : Int) + 2) = ((j + 2 : Nat) : Int) := by unfold big at hs; rw [wrap_small (z := (j : Int) + 2) (by omega) (by omega)]; omega
      simp only [hl, decide_true, cond_true, k1, if_true, Bool.true_and, w2]
      cases h45' : bt s ((j + 1 : Nat) : Int) == 45 with
      | true =>
        simp only [cond_true]
        rw [extract2 hs hl hb (by simpa using h45')]; rfl
      | false => simp only [Int.reduceBEq, Bool.or_self, Bool.or_true, Bool.false_or, cond_true, cond_false]; rfl
    · simp only [hl, decide_false, Bool.false_and, Int.reduceBEq, Bool.or_self, Bool.or_true, Bool.false_or, cond_true, cond_false]; rfl
  | false =>
    simp only [cond_false, Bool.false_and, Bool.or_false]
    cases bt s (j : Int) == 40 <;> cases bt s (j : Int) == 41 <;> cases bt s (j : Int) == 44 <;> cases bt s (j : Int) == 46 <;> rfl
end
end Go.Den
/- A text's tokens: the code's and the document's are the same. -/
namespace Go.Den
open Go.Proofs
abbrev TokRes := Option (((Bool × Rows) × Int × Int × Unit) × Unit)
def tokRes (nl : Bool) (acc : Rows) : Except (Nat × Int) Rows → TokRes
  | .ok l => some (((nl && l.isEmpty, acc ++ l), (0, (0, ()))), ())
  | .error p => some (((true, []), ((p.1 : Int), (p.2, ()))), ())
theorem tokF_len (s : ByteArray) : ∀ k j l, tokF s k j = .ok l → l.length ≤ k
  | 0, j, l, h => by cases h; exact Nat.le_refl _
  | k + 1, j, l, h => by
    unfold tokF at h
    split at h
    · split at h
      · cases h
      · split at h
        · cases h
        · split at h
          · rename_i l' hl
            cases h
            have := tokF_len s k _ l' hl
            simp only [List.length_cons]; omega
          · cases h
    · cases h; exact Nat.zero_le _
/-- rounds to spare -/
theorem tokF_more (s : ByteArray) : ∀ k j k', j ≤ s.size → s.size - j < k → s.size - j < k' → tokF s k j = tokF s k' j
  | 0, j, k', _, h, _ => by omega
  | k + 1, j, 0, _, _, h => by omega
  | k + 1, j, k' + 1, hj, h1, h2 => by
    unfold tokF
    by_cases hlt : j < s.size
    · rw [if_pos hlt, if_pos hlt]
      cases ho : oneS s j with
      | none => rfl
      | some t =>
        obtain ⟨kd, x, v, e⟩ := t
        have he := oneS_next hlt ho
        have hsk := skip_le (s := s) (j := e) he.2
        simp only
        rw [tokF_more s k (skip s e) k' (by omega) (by omega) (by omega)]
    · rw [if_neg hlt, if_neg hlt]
section
variable {s : ByteArray} (hs : s.size < 1000000000)
include hs
theorem lex_Tokens_loop {n : Nat} (hn : s.size < n) : ∀ k j, j ≤ s.size → s.size - j < k → ∀ i nl acc, s.size - j < i → acc.length + (s.size - j) < 1100000000 →
    lex_Tokens_l4 n s i (j : Int) nl acc = tokRes nl acc (tokF s k j) := by
  have hb : s.size < big := by unfold big; omega
  intro k
  induction k with
  | zero => intro j _ h; omega
  | succ k ih =>
    intro j hj hk i nl acc hi hacc
    obtain ⟨i, rfl⟩ : ∃ z, i = z + 1 := ⟨i - 1, by omega⟩
    rw [lex_Tokens_s4]
    unfold tokF
    by_cases hlt : j < s.size
    · have h1 : (j : Int) < (s.size : Int) := by omega
      have h0 : (0 : Int) ≤ (j : Int) := by omega
      rw [if_pos hlt]
      simp only [h1, decide_true, cond_true]
      have ho := lex_one_q hb hn hlt
      cases hone : oneS s j with
      | none =>
        rw [hone] at ho
        obtain ⟨t, ht⟩ := ho
        rw [ht]; rfl
      | some t =>
        obtain ⟨kd, x, v, e⟩ := t
        rw [hone] at ho
        simp only at ho ⊢
        by_cases hx : x.size > 32
        · rw [if_pos hx] at ho ⊢
          obtain ⟨t, ht⟩ := ho
          rw [ht]; rfl
        · rw [if_neg hx] at ho ⊢
          have he := oneS_next hlt hone
          have hsk := skip_le (s := s) (j := e) he.2
          have hl : (acc.length + 1) * 40 ≤ 140737488355328 := by omega
          rw [ho]
          simp only [obind_some, bne_self_eq_false, cond_false, List.length_cons, List.length_nil, Nat.zero_add, hl, if_true, lex_skip_q hb hn he.2, List.isEmpty_cons, Bool.and_false, appX]
          rw [ih (skip s e) hsk.2 (by omega) i false _ (by omega) (by simp only [List.length_append, List.length_cons, List.length_nil]; omega)]
          cases tokF s k (skip s e) with
          | ok l => simp [tokRes]
          | error p => rfl
    · have h1 : ¬ (j : Int) < (s.size : Int) := by omega
      rw [if_neg hlt]
      simp only [h1, decide_false, cond_false, tokRes, List.isEmpty_nil, Bool.and_true, List.append_nil]
theorem ref_Tokens_loop {n : Nat} (hn : s.size < n) : ∀ k j, j ≤ s.size → s.size - j < k → ∀ i nl acc, s.size - j < i → acc.length + (s.size - j) < 1100000000 →
    ref07_Tokens_l5 n s i (j : Int) nl acc = tokRes nl acc (tokF s k j) := by
  have hb : s.size < big := by unfold big; omega
  intro k
  induction k with
  | zero => intro j _ h; omega
  | succ k ih =>
    intro j hj hk i nl acc hi hacc
    obtain ⟨i, rfl⟩ : ∃ z, i = z + 1 := ⟨i - 1, by omega⟩
    rw [ref07_Tokens_s5]
    unfold tokF
    by_cases hlt : j < s.size
    · have h1 : (j : Int) < (s.size : Int) := by omega
      have h0 : (0 : Int) ≤ (j : Int) := by omega
      rw [if_pos hlt]
      simp only [h1, decide_true, cond_true, ref_one_q hb hn hlt]
      cases hone : oneS s j with
      | none => rfl
      | some t =>
        obtain ⟨kd, x, v, e⟩ := t
        have he := oneS_next hlt hone
        have hsk := skip_le (s := s) (j := e) he.2
        have h2 : ¬ (e : Int) < 0 := by omega
        simp only [oneAns, obind_some, h2, decide_false, cond_false]
        by_cases hx : x.size > 32
        · have hx' : (x.size : Int) > 32 := by omega
          rw [if_pos hx]
          simp only [hx', decide_true, cond_true]; rfl
        · have hx' : ¬ (x.size : Int) > 32 := by omega
          have hl : (acc.length + 1) * 40 ≤ 140737488355328 := by omega
          rw [if_neg hx]
          simp only [hx', decide_false, cond_false, List.length_cons, List.length_nil, Nat.zero_add, hl, if_true, ref_skip_q hb hn he.2, obind_some, List.isEmpty_cons, Bool.and_false, appX]
          rw [ih (skip s e) hsk.2 (by omega) i false _ (by omega) (by simp only [List.length_append, List.length_cons, List.length_nil]; omega)]
          cases tokF s k (skip s e) with
          | ok l => simp [tokRes]
          | error p => rfl
    · have h1 : ¬ (j : Int) < (s.size : Int) := by omega
      rw [if_neg hlt]
      simp only [h1, decide_false, cond_false, tokRes, List.isEmpty_nil, Bool.and_true, List.append_nil]
end
/-- A text's tokens, or the first wrong place. -/
def tokensE (s : ByteArray) : Except (Nat × Int) Rows := if s.size > 4096 then .error (0, 3) else tokens s
theorem lex_Tokens_q {n : Nat} {s : ByteArray} (hn : 5000 < n) : lex_Tokens_v n s = tokRes true [] (tokensE s) := by
  rw [lex_Tokens_e]
  unfold tokensE
  by_cases h : s.size > 4096
  · have h1 : (s.size : Int) > 4096 := by omega
    rw [if_pos h]
    simp only [h1, decide_true, cond_true]; rfl
  · have h1 : ¬ (s.size : Int) > 4096 := by omega
    have hsk := skip_le (s := s) (j := 0) (Nat.zero_le _)
    have hb : s.size < big := by unfold big; omega
    rw [if_neg h]
    simp only [h1, decide_false, cond_false]
    have h2 := lex_skip_q hb (n := n) (j := 0) (by omega) (Nat.zero_le _)
    rw [show ((0 : Nat) : Int) = 0 from rfl] at h2
    rw [h2]
    exact lex_Tokens_loop (by omega) (by omega) (s.size + 1) _ hsk.2 (by omega) n true [] (by omega) (by simp only [List.length_nil]; omega)
theorem ref_Tokens_q {n : Nat} {s : ByteArray} (hn : 5000 < n) : ref07_Tokens_v n s = tokRes true [] (tokensE s) := by
  rw [ref07_Tokens_e]
  unfold tokensE
  by_cases h : s.size > 4096
  · have h1 : (s.size : Int) > 4096 := by omega
    rw [if_pos h]
    simp only [h1, decide_true, cond_true]; rfl
  · have h1 : ¬ (s.size : Int) > 4096 := by omega
    have hsk := skip_le (s := s) (j := 0) (Nat.zero_le _)
    have hb : s.size < big := by unfold big; omega
    rw [if_neg h]
    simp only [h1, decide_false, cond_false]
    have h2 := ref_skip_q hb (n := n) (j := 0) (by omega) (Nat.zero_le _)
    rw [show ((0 : Nat) : Int) = 0 from rfl] at h2
    rw [h2]
    exact ref_Tokens_loop (by omega) (by omega) (s.size + 1) _ hsk.2 (by omega) n true [] (by omega) (by simp only [List.length_nil]; omega)
theorem tokensE_len {s : ByteArray} {l : Rows} (h : tokensE s = .ok l) : s.size ≤ 4096 ∧ l.length ≤ 4097 := by
  unfold tokensE at h
  split at h
  · cases h
  · have := tokF_len s _ _ _ h
    omega
end Go.Den
