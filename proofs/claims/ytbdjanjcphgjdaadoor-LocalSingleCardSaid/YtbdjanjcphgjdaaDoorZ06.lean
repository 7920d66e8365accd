import Derived.Test.YtbdjanjcphgjdaaDoorZ03
import Derived.Test.YtbdjanjcphgjdaaDoorZ05
set_option linter.unusedVariables false
set_option linter.unusedSimpArgs false
set_option linter.unusedSectionVars false
namespace Go.Den
theorem bt_ext {s : ByteArray} {a b k : Nat} (h1 : a + k < b) (h2 : b ≤ s.size) : bt (s.extract a b) (k : Int) = bt s ((a + k : Nat) : Int) := by
  unfold bt
  simp only [Int.toNat_natCast]
  congr 2
  have e : (s.extract a b).data = s.data.extract a b := ByteArray.data_extract
  rw [e, Array.toList_extract]
  simp only [List.getD_eq_getElem?_getD, List.extract_eq_take_drop]
  congr 1
  rw [List.getElem?_take, if_pos (by omega), List.getElem?_drop]
theorem size_ext {s : ByteArray} {a b : Nat} (h1 : a ≤ b) (h2 : b ≤ s.size) : (s.extract a b).size = b - a := by
  rw [ByteArray.size_extract]; omega
def overF (p : Int → Bool) (s : ByteArray) : Nat → Nat → Nat
  | 0, j => j
  | k + 1, j => bif p (bt s (j : Int)) then overF p s k (j + 1) else j
def over (p : Int → Bool) (s : ByteArray) (j : Nat) : Nat := overF p s (s.size - j) j
theorem overF_le (p : Int → Bool) (s : ByteArray) : ∀ k j, j ≤ overF p s k j ∧ overF p s k j ≤ j + k
  | 0, j => ⟨Nat.le_refl _, Nat.le_refl _⟩
  | k + 1, j => by
    unfold overF
    cases p (bt s (j : Int)) with
    | true => have := overF_le p s k (j + 1); simp only [cond_true]; omega
    | false => simp only [cond_false]; omega
theorem over_le {p : Int → Bool} {s : ByteArray} {j : Nat} (h : j ≤ s.size) : j ≤ over p s j ∧ over p s j ≤ s.size := by
  have := overF_le p s (s.size - j) j
  unfold over; omega
theorem over_step {p : Int → Bool} {s : ByteArray} {j : Nat} (h : j < s.size) (hp : p (bt s (j : Int)) = true) : over p s j = over p s (j + 1) := by
  unfold over
  obtain ⟨k, hk⟩ : ∃ k, s.size - j = k + 1 := ⟨s.size - j - 1, by omega⟩
  rw [hk]
  simp only [overF, hp, cond_true]
  congr 1; omega
theorem over_stop {p : Int → Bool} {s : ByteArray} {j : Nat} (hp : p (bt s (j : Int)) = false) : over p s j = j := by
  unfold over
  cases s.size - j with
  | zero => rfl
  | succ k => simp only [overF, hp, cond_false]
theorem over_end {p : Int → Bool} {s : ByteArray} {j : Nat} (h : s.size ≤ j) : over p s j = j := by
  unfold over
  rw [Nat.sub_eq_zero_of_le h]; rfl
theorem over_gt {p : Int → Bool} {s : ByteArray} {j : Nat} (h : j < s.size) (hp : p (bt s (j : Int)) = true) : j < over p s j := by
  rw [over_step h hp]; have := over_le (p := p) (s := s) (j := j + 1) h; omega
theorem over_gen {F : Nat → Int → Option (Int × Unit)} {s : ByteArray} {p : Int → Bool} (hs : s.size < big)
    (hF : ∀ i j, F (i + 1) j = bif decide (j < (s.size : Int)) then if 0 ≤ j then if j < (s.size : Int) then (bif p (bt s j) then F i (IntKind.wrap IntKind.i64 (j + 1)) else some (j, ())) else none else none else some (j, ())) :
    ∀ k j : Nat, j + k = s.size → ∀ i, k < i → F i (j : Int) = some (((overF p s k j : Nat) : Int), ())
  | 0, j, hj, i, hi => by
    obtain ⟨i, rfl⟩ : ∃ m, i = m + 1 := ⟨i - 1, by omega⟩
    rw [hF]
    have h1 : ¬ ((j : Int) < (s.size : Int)) := by omega
    simp only [h1, decide_false, cond_false, overF]
  | k + 1, j, hj, i, hi => by
    obtain ⟨i, rfl⟩ : ∃ m, i = m + 1 := ⟨i - 1, by omega⟩
    rw [hF]
    have h1 : (j : Int) < (s.size : Int) := by omega
    have h0 : (0 : Int) ≤ (j : Int) := by omega
    simp only [h1, h0, decide_true, cond_true, if_true, overF]
    cases p (bt s (j : Int)) with
    | true =>
      simp only [cond_true]
      rw [wrap_succ (by omega)]
      exact over_gen hs hF k (j + 1) (by omega) i (by omega)
    | false => rfl
theorem over_at {F : Nat → Int → Option (Int × Unit)} {s : ByteArray} {p : Int → Bool} (hs : s.size < big)
    (hF : ∀ i j, F (i + 1) j = bif decide (j < (s.size : Int)) then if 0 ≤ j then if j < (s.size : Int) then (bif p (bt s j) then F i (IntKind.wrap IntKind.i64 (j + 1)) else some (j, ())) else none else none else some (j, ()))
    {n j : Nat} (hn : s.size < n) (hj : j ≤ s.size) : F n (j : Int) = some (((over p s j : Nat) : Int), ()) :=
  over_gen hs hF (s.size - j) j (by omega) n (by omega)
end Go.Den
namespace Go.Den
@[reducible] def W (z : Int) : Int := IntKind.wrap IntKind.i64 z
def isBlank (c : Int) : Bool := c == 32 || (c == 9 || (c == 10 || c == 13))
def isSmall (c : Int) : Bool := decide (c ≥ 97) && decide (c ≤ 122)
def isGreat (c : Int) : Bool := decide (c ≥ 65) && decide (c ≤ 90)
def isDigit (c : Int) : Bool := decide (c ≥ 48) && decide (c ≤ 57)
def isInner (c : Int) : Bool := isSmall c || (isGreat c || (isDigit c || c == 95))
def isPlain (c : Int) : Bool := decide (c ≥ 32) && (decide (c ≤ 126) && (c != 34 && c != 92))
def notLine (c : Int) : Bool := c != 10

def skipF (s : ByteArray) : Nat → Bool → Nat → Nat
  | 0, _, j => j
  | k + 1, note, j =>
    bif bt s (j : Int) == 37 then skipF s k true (j + 1)
    else bif bt s (j : Int) == 10 then skipF s k false (j + 1)
    else bif !note && !isBlank (bt s (j : Int)) then j
    else skipF s k note (j + 1)
def skip (s : ByteArray) (j : Nat) : Nat := skipF s (s.size - j) false j
theorem skipF_le (s : ByteArray) : ∀ k b j, j ≤ skipF s k b j ∧ skipF s k b j ≤ j + k
  | 0, b, j => ⟨Nat.le_refl _, Nat.le_refl _⟩
  | k + 1, b, j => by
    unfold skipF
    have h1 := skipF_le s k true (j + 1)
    have h2 := skipF_le s k false (j + 1)
    have h3 := skipF_le s k b (j + 1)
    cases bt s (j : Int) == 37 <;> cases bt s (j : Int) == 10 <;> cases (!b && !isBlank (bt s (j : Int))) <;> simp only [cond_true, cond_false] <;> omega
theorem skip_le {s : ByteArray} {j : Nat} (h : j ≤ s.size) : j ≤ skip s j ∧ skip s j ≤ s.size := by
  have := skipF_le s (s.size - j) false j
  unfold skip; omega
theorem skipF_note (s : ByteArray) : ∀ k j, skipF s k true j = skipF s (k - (overF notLine s k j - j)) false (overF notLine s k j)
  | 0, j => by simp [overF, skipF]
  | k + 1, j => by
    unfold overF
    cases hn : notLine (bt s (j : Int)) with
    | true =>
      simp only [cond_true]
      have hl := overF_le notLine s k (j + 1)
      have h10 : (bt s (j : Int) == 10) = false := by simpa [notLine, bne] using hn
      have e : k + 1 - (overF notLine s k (j + 1) - j) = k - (overF notLine s k (j + 1) - (j + 1)) := by omega
      rw [e, ← skipF_note s k (j + 1)]
      rw [skipF]
      simp only [h10, cond_false, Bool.not_true, Bool.false_and]
      cases bt s (j : Int) == 37 <;> rfl
    | false =>
      simp only [cond_false]
      have h10 : (bt s (j : Int) == 10) = true := by simpa [notLine, bne] using hn
      have h37 : (bt s (j : Int) == 37) = false := by
        have : bt s (j : Int) = 10 := by simpa using h10
        rw [this]; rfl
      rw [show j - j = 0 from by omega, Nat.sub_zero, skipF, skipF]
      simp only [h10, h37, cond_true, cond_false]
theorem skipF_blank (s : ByteArray) : ∀ k j, skipF s k false j = skipF s (k - (overF isBlank s k j - j)) false (overF isBlank s k j)
  | 0, j => by simp [overF, skipF]
  | k + 1, j => by
    unfold overF
    cases hb : isBlank (bt s (j : Int)) with
    | true =>
      simp only [cond_true]
      have hl := overF_le isBlank s k (j + 1)
      have e : k + 1 - (overF isBlank s k (j + 1) - j) = k - (overF isBlank s k (j + 1) - (j + 1)) := by omega
      rw [e, ← skipF_blank s k (j + 1)]
      have h37 : (bt s (j : Int) == 37) = false := by
        cases h : bt s (j : Int) == 37 with
        | false => rfl
        | true =>
          have : bt s (j : Int) = 37 := by simpa using h
          rw [this] at hb; cases hb
      rw [skipF]
      simp only [h37, hb, cond_false, Bool.not_true, Bool.and_false]
      cases bt s (j : Int) == 10 <;> rfl
    | false => simp
theorem skip_blank {s : ByteArray} {j : Nat} (h : j ≤ s.size) : skip s j = skip s (over isBlank s j) := by
  unfold skip over
  rw [skipF_blank]
  have := overF_le isBlank s (s.size - j) j
  congr 1; omega
theorem skip_note {s : ByteArray} {j : Nat} (h : j < s.size) (h37 : (bt s (j : Int) == 37) = true) : skip s j = skip s (over notLine s j) := by
  have hp : notLine (bt s (j : Int)) = true := by
    have : bt s (j : Int) = 37 := by simpa using h37
    rw [this]; rfl
  rw [over_step h hp]
  unfold skip over
  obtain ⟨k, hk⟩ : ∃ k, s.size - j = k + 1 := ⟨s.size - j - 1, by omega⟩
  rw [hk, skipF]
  simp only [h37, cond_true]
  rw [skipF_note]
  have := overF_le notLine s k (j + 1)
  rw [show s.size - (j + 1) = k from by omega]
  congr 1; omega
theorem skip_stop {s : ByteArray} {j : Nat} (h37 : (bt s (j : Int) == 37) = false) (hb : isBlank (bt s (j : Int)) = false) : skip s j = j := by
  unfold skip
  cases s.size - j with
  | zero => rfl
  | succ k =>
    have h10 : (bt s (j : Int) == 10) = false := by
      cases h : bt s (j : Int) == 10 with
      | false => rfl
      | true =>
        have : bt s (j : Int) = 10 := by simpa using h
        rw [this] at hb; cases hb
    rw [skipF]
    simp only [h37, h10, hb, cond_false, Bool.not_false, Bool.and_self, cond_true]
theorem skip_end {s : ByteArray} {j : Nat} (h : s.size ≤ j) : skip s j = j := by
  unfold skip; rw [Nat.sub_eq_zero_of_le h]; rfl

def digitMore (n c : Int) : Option Int :=
  bif decide (n < W (Int.tdiv (W (-9223372036854775808 + W (IntKind.wrap IntKind.u8 (c - 48)))) 10)) then none
  else some (W (W (10 * n) - W (IntKind.wrap IntKind.u8 (c - 48))))
attribute [irreducible] digitMore
def numF (s : ByteArray) : Nat → Nat → Int → Option Int
  | 0, _, n => some n
  | k + 1, j, n => match digitMore n (bt s (j : Int)) with
    | some m => numF s k (j + 1) m
    | none => none
theorem numF_succ (s : ByteArray) (k j : Nat) (n : Int) : numF s (k + 1) j n = match digitMore n (bt s (j : Int)) with
    | some m => numF s k (j + 1) m
    | none => none := by rw [numF]
theorem numF_congr {s t : ByteArray} (k : Nat) : ∀ {j j' : Nat} {n : Int}, (∀ i, i < k → bt s ((j + i : Nat) : Int) = bt t ((j' + i : Nat) : Int)) → numF s k j n = numF t k j' n := by
  induction k with
  | zero => intro j j' n h; rfl
  | succ k ih =>
    intro j j' n h
    rw [numF_succ, numF_succ]
    have h0 := h 0 (Nat.succ_pos k)
    simp only [Nat.add_zero] at h0
    rw [h0]
    cases digitMore n (bt t (j' : Int)) with
    | none => rfl
    | some m =>
      refine ih fun i hi => ?_
      have := h (i + 1) (by omega)
      rw [show j + 1 + i = j + (i + 1) from by omega, show j' + 1 + i = j' + (i + 1) from by omega]; exact this
def numS (s : ByteArray) (a e : Nat) : Option Int :=
  bif bt s (a : Int) == 45 then
    bif decide (e ≤ a + 1) then none
    else bif bt s ((a + 1 : Nat) : Int) == 48 then none
    else numF s (e - (a + 1)) (a + 1) 0
  else bif bt s (a : Int) == 48 && decide (e > a + 1) then none
  else match numF s (e - a) a 0 with
    | some m => bif m == -9223372036854775808 then none else some (W (0 - m))
    | none => none
def oneS (s : ByteArray) (j : Nat) : Option (Int × ByteArray × Int × Nat) :=
  bif isSmall (bt s (j : Int)) then some (1, s.extract j (over isInner s j), 0, over isInner s j)
  else bif isGreat (bt s (j : Int)) then some (2, s.extract j (over isInner s j), 0, over isInner s j)
  else bif isDigit (bt s (j : Int)) || bt s (j : Int) == 45 then
    match numS s j (over isDigit s (j + 1)) with
    | some m => some (3, ByteArray.mk #[], m, over isDigit s (j + 1))
    | none => none
  else bif bt s (j : Int) == 34 then
    bif decide (over isPlain s (j + 1) < s.size) && bt s ((over isPlain s (j + 1) : Nat) : Int) == 34 then some (4, s.extract (j + 1) (over isPlain s (j + 1)), 0, over isPlain s (j + 1) + 1)
    else none
  else bif bt s (j : Int) == 58 && (decide (j + 1 < s.size) && bt s ((j + 1 : Nat) : Int) == 45) then some (5, s.extract j (j + 2), 0, j + 2)
  else bif bt s (j : Int) == 40 || (bt s (j : Int) == 41 || (bt s (j : Int) == 44 || (bt s (j : Int) == 46 || bt s (j : Int) == 58))) then some (5, s.extract j (j + 1), 0, j + 1)
  else none
theorem oneS_next {s : ByteArray} {j : Nat} (hj : j < s.size) {k v e} {x : ByteArray} (h : oneS s j = some (k, x, v, e)) : j < e ∧ e ≤ s.size := by
  unfold oneS at h
  have a1 := over_le (p := isInner) (s := s) (j := j) (by omega)
  have a2 := over_le (p := isDigit) (s := s) (j := j + 1) (by omega)
  have a3 := over_le (p := isPlain) (s := s) (j := j + 1) (by omega)
  cases h1 : isSmall (bt s (j : Int)) with
  | true =>
    rw [h1] at h; cases h
    have : j < over isInner s j := over_gt hj (by simp [isInner, h1])
    omega
  | false =>
    rw [h1] at h
    cases h2 : isGreat (bt s (j : Int)) with
    | true =>
      rw [h2] at h; cases h
      have : j < over isInner s j := over_gt hj (by simp [isInner, h2])
      omega
    | false =>
      rw [h2] at h
      simp only [cond_false] at h
      cases h3 : (isDigit (bt s (j : Int)) || bt s (j : Int) == 45) with
      | true =>
        rw [h3] at h
        simp only [cond_true] at h
        split at h
        · cases h; omega
        · cases h
      | false =>
        rw [h3] at h
        simp only [cond_false] at h
        cases h4 : bt s (j : Int) == 34 with
        | true =>
          rw [h4] at h
          simp only [cond_true] at h
          cases h5 : (decide (over isPlain s (j + 1) < s.size) && bt s ((over isPlain s (j + 1) : Nat) : Int) == 34) with
          | true =>
            rw [h5] at h
            cases h
            simp only [Bool.and_eq_true, decide_eq_true_eq] at h5
            omega
          | false => rw [h5] at h; cases h
        | false =>
          rw [h4] at h
          simp only [cond_false] at h
          cases h5 : (bt s (j : Int) == 58 && (decide (j + 1 < s.size) && bt s ((j + 1 : Nat) : Int) == 45)) with
          | true =>
            rw [h5] at h
            cases h
            simp only [Bool.and_eq_true, decide_eq_true_eq] at h5
            omega
          | false =>
            rw [h5] at h
            simp only [cond_false] at h
            cases h6 : (bt s (j : Int) == 40 || (bt s (j : Int) == 41 || (bt s (j : Int) == 44 || (bt s (j : Int) == 46 || bt s (j : Int) == 58)))) with
            | true => rw [h6] at h; cases h; omega
            | false => rw [h6] at h; cases h
@[reducible] def tokRow (k : Int) (x : ByteArray) (v : Int) (j : Nat) : Row := [.val (.int .i64 k), .val (.string x), .val (.int .i64 v), .val (.int .i64 (j : Int))]
def tokF (s : ByteArray) : Nat → Nat → Except (Nat × Int) Rows
  | 0, _ => .ok []
  | k + 1, j =>
    if j < s.size then
      match oneS s j with
      | none => .error (j, 70)
      | some (kd, x, v, e) =>
        if x.size > 32 then .error (j, 71)
        else match tokF s k (skip s e) with
          | .ok l => .ok (tokRow kd x v j :: l)
          | .error e => .error e
    else .ok []
def tokens (s : ByteArray) : Except (Nat × Int) Rows := tokF s (s.size + 1) (skip s 0)
end Go.Den
namespace Go.Den
open Go.Proofs
theorem lex_small_q (n : Nat) (c : Int) : lex_small_v n c = some (isSmall c, ()) := by
  rw [lex_small_e]; unfold isSmall; cases decide (c ≥ 97) <;> rfl
theorem lex_great_q (n : Nat) (c : Int) : lex_great_v n c = some (isGreat c, ()) := by
  rw [lex_great_e]; unfold isGreat; cases decide (c ≥ 65) <;> rfl
theorem lex_digit_q (n : Nat) (c : Int) : lex_digit_v n c = some (isDigit c, ()) := by
  rw [lex_digit_e]; unfold isDigit; cases decide (c ≥ 48) <;> rfl
theorem lex_blank_q (n : Nat) (c : Int) : lex_blank_v n c = some (isBlank c, ()) := by
  rw [lex_blank_e]; unfold isBlank; cases c == 32 <;> cases c == 9 <;> cases c == 10 <;> rfl
theorem lex_skip_1_q (n : Nat) (c : Int) : lex_skip_1_v n c = some (notLine c, ()) := by
  rw [lex_skip_1_e]; rfl
theorem lex_quoted_1_q (n : Nat) (c : Int) : lex_quoted_1_v n c = some (isPlain c, ()) := by
  rw [lex_quoted_1_e]; unfold isPlain; cases decide (c ≥ 32) <;> cases decide (c ≤ 126) <;> cases c != 34 <;> rfl
theorem lex_one_1_q (n : Nat) (c : Int) : lex_one_1_v n c = some (isInner c, ()) := by
  rw [lex_one_1_e]; simp only [lex_small_q, lex_great_q, lex_digit_q, obind_some]; unfold isInner; cases isSmall c <;> cases isGreat c <;> cases isDigit c <;> rfl
section
variable {s : ByteArray} (hs : s.size < big)
include hs
theorem over_blank_q {n j : Nat} (hn : s.size < n) (hj : j ≤ s.size) : lo_blank_v n s (j : Int) = some (((over isBlank s j : Nat) : Int), ()) := by
  rw [lo_blank_e]
  exact over_at (F := fun i q => lo_blank_l1 n s j i q) hs (fun i q => by rw [lo_blank_s1]; simp only [lex_blank_q, obind_some]) hn hj
theorem over_line_q {n j : Nat} (hn : s.size < n) (hj : j ≤ s.size) : lo_skip_1_v n s (j : Int) = some (((over notLine s j : Nat) : Int), ()) := by
  rw [lo_skip_1_e]
  exact over_at (F := fun i q => lo_skip_1_l1 n s j i q) hs (fun i q => by rw [lo_skip_1_s1]; simp only [lex_skip_1_q, obind_some]) hn hj
theorem over_plain_q {n j : Nat} (hn : s.size < n) (hj : j ≤ s.size) : lo_quoted_1_v n s (j : Int) = some (((over isPlain s j : Nat) : Int), ()) := by
  rw [lo_quoted_1_e]
  exact over_at (F := fun i q => lo_quoted_1_l1 n s j i q) hs (fun i q => by rw [lo_quoted_1_s1]; simp only [lex_quoted_1_q, obind_some]) hn hj
theorem over_inner_q {n j : Nat} (hn : s.size < n) (hj : j ≤ s.size) : lo_one_1_v n s (j : Int) = some (((over isInner s j : Nat) : Int), ()) := by
  rw [lo_one_1_e]
  exact over_at (F := fun i q => lo_one_1_l1 n s j i q) hs (fun i q => by rw [lo_one_1_s1]; simp only [lex_one_1_q, obind_some]) hn hj
theorem over_digit_q {n j : Nat} (hn : s.size < n) (hj : j ≤ s.size) : lo_digit_v n s (j : Int) = some (((over isDigit s j : Nat) : Int), ()) := by
  rw [lo_digit_e]
  exact over_at (F := fun i q => lo_digit_l1 n s j i q) hs (fun i q => by rw [lo_digit_s1]; simp only [lex_digit_q, obind_some]) hn hj

theorem skip_loop {n : Nat} (hn : s.size < n) (j1 : Int) : ∀ k j : Nat, j + k = s.size → ∀ i, k < i → lex_skip_l1 n s j1 i (j : Int) = some (((skip s j : Nat) : Int), ()) := by
  intro k
  induction k using Nat.strongRecOn with
  | ind k ih =>
    intro j hj i hi
    obtain ⟨i, rfl⟩ : ∃ m, i = m + 1 := ⟨i - 1, by omega⟩
    rw [lex_skip_s1]
    by_cases hlt : j < s.size
    · have h1 : (j : Int) < (s.size : Int) := by omega
      have h0 : (0 : Int) ≤ (j : Int) := by omega
      simp only [h1, h0, decide_true, cond_true, if_true, lex_blank_q, obind_some]
      cases hb : isBlank (bt s (j : Int)) with
      | true =>
        have hg := over_gt hlt hb
        have hl := over_le (p := isBlank) (s := s) (j := j) (by omega)
        simp only [cond_true, over_blank_q hs hn (Nat.le_of_lt hlt), obind_some]
        rw [ih (s.size - over isBlank s j) (by omega) (over isBlank s j) (by omega) i (by omega), ← skip_blank (by omega)]
      | false =>
        simp only [cond_false]
        cases h37 : bt s (j : Int) == 37 with
        | true =>
          have hp : notLine (bt s (j : Int)) = true := by
            have : bt s (j : Int) = 37 := by simpa using h37
            rw [this]; rfl
          have hg := over_gt hlt hp
          have hl := over_le (p := notLine) (s := s) (j := j) (by omega)
          simp only [cond_true, over_line_q hs hn (Nat.le_of_lt hlt), obind_some]
          rw [ih (s.size - over notLine s j) (by omega) (over notLine s j) (by omega) i (by omega), ← skip_note hlt h37]
        | false =>
          simp only [cond_false]
          rw [skip_stop h37 hb]
    · have h1 : ¬ ((j : Int) < (s.size : Int)) := by omega
      simp only [h1, decide_false, cond_false]
      rw [skip_end (by omega)]
theorem lex_skip_q {n j : Nat} (hn : s.size < n) (hj : j ≤ s.size) : lex_skip_v n s (j : Int) = some (((skip s j : Nat) : Int), ()) := by
  rw [lex_skip_e]
  exact skip_loop hs hn j (s.size - j) j (by omega) n (by omega)

end

theorem lex_number_loop {n : Nat} {s0 t : ByteArray} (ht : t.size < big) : ∀ k j : Nat, j + k = t.size → ∀ i m, k < i →
    ∃ v, lex_number_l8 n s0 i t (t.size : Int) m (j : Int) = some ((v, (match numF t k j m with | some q => (bt s0 0 == 45 || q != -9223372036854775808) | none => false, ())), ()) ∧
      ∀ q, numF t k j m = some q → v = bif bt s0 0 == 45 then q else W (0 - q) := by
  intro k
  induction k with
  | zero =>
    intro j hj i m hi
    obtain ⟨i, rfl⟩ : ∃ q, i = q + 1 := ⟨i - 1, by omega⟩
    rw [lex_number_s8]
    have h1 : ¬ ((j : Int) < (t.size : Int)) := by omega
    simp only [h1, decide_false, cond_false, numF]
    cases bt s0 0 == 45 with
    | true => exact ⟨m, rfl, fun q hq => by cases hq; rfl⟩
    | false => exact ⟨W (0 - m), rfl, fun q hq => by cases hq; rfl⟩
  | succ k ih =>
    intro j hj i m hi
    obtain ⟨i, rfl⟩ : ∃ q, i = q + 1 := ⟨i - 1, by omega⟩
    rw [lex_number_s8, wrap_succ (by omega)]
    have h1 : (j : Int) < (t.size : Int) := by omega
    have h0 : (0 : Int) ≤ (j : Int) := by omega
    simp only [h1, h0, decide_true, cond_true, if_true, numF_succ]
    have hd : digitMore m (bt t (j : Int)) = bif decide (m < W (Int.tdiv (W (-9223372036854775808 + W (IntKind.wrap IntKind.u8 (bt t (j : Int) - 48)))) 10)) then none
      else some (W (W (10 * m) - W (IntKind.wrap IntKind.u8 (bt t (j : Int) - 48)))) := by unfold digitMore; rfl
    rw [hd]
    cases decide (m < W (Int.tdiv (W (-9223372036854775808 + W (IntKind.wrap IntKind.u8 (bt t (j : Int) - 48)))) 10)) with
    | true => exact ⟨0, rfl, fun q hq => by cases hq⟩
    | false => exact ih (j + 1) (by omega) i _ (by omega)
end Go.Den
namespace Go.Den
open Go.Proofs
def numT (t : ByteArray) : Option Int :=
  bif bt t 0 == 45 then
    bif decide (t.size ≤ 1) then none
    else bif bt t 1 == 48 then none
    else numF t (t.size - 1) 1 0
  else bif bt t 0 == 48 && decide (t.size > 1) then none
  else match numF t t.size 0 0 with
    | some m => bif m == -9223372036854775808 then none else some (W (0 - m))
    | none => none
theorem size_zero {t : ByteArray} : (t == ByteArray.mk #[]) = decide (t.size = 0) := by
  cases t with | mk d =>
  show (d == #[]) = decide (d.size = 0)
  cases h : d == #[] with
  | true => have := eq_of_beq h; subst this; rfl
  | false =>
    symm; rw [decide_eq_false_iff_not]
    intro h0
    have := Array.eq_empty_of_size_eq_zero h0
    subst this; cases h
theorem lex_number_q {n : Nat} {t : ByteArray} (ht : t.size < big) (h0 : 0 < t.size) (hn : t.size < n) :
    ∃ v, lex_number_v n t = some ((v, ((numT t).isSome, ())), ()) ∧ ∀ q, numT t = some q → v = q := by
  rw [lex_number_e]
  unfold numT
  have h1 : (0 : Int) < (t.size : Int) := by omega
  simp only [h1, if_true, size_zero]
  cases h45 : bt t 0 == 45 with
  | true =>
    have g1 : (1 : Int) ≤ (t.size : Int) := by omega
    have g2 : (t.size : Int) ≤ (t.size : Int) := Int.le_refl _
    simp only [g1, g2, if_true, cond_true, Int.toNat_natCast]
    have e1 : (t.extract 1 t.size).size = t.size - 1 := size_ext (by omega) (Nat.le_refl _)
    by_cases hle : t.size ≤ 1
    · simp only [e1, hle, decide_true, cond_true, show t.size - 1 = 0 from by omega]
      exact ⟨_, rfl, fun q hq => by cases hq⟩
    · have g3 : ¬ (t.size - 1 = 0) := by omega
      have g4 : (0 : Int) < ((t.size - 1 : Nat) : Int) := by omega
      have b0 : bt (t.extract 1 t.size) 0 = bt t 1 := by
        have := bt_ext (s := t) (a := 1) (b := t.size) (k := 0) (by omega) (Nat.le_refl _)
        simpa using this
      simp only [e1, g3, g4, hle, decide_false, cond_false, if_true, b0]
      cases h48 : bt t 1 == 48 with
      | true => exact ⟨0, rfl, fun q hq => by cases hq⟩
      | false =>
        simp only [cond_false]
        have hsz : (t.extract 1 t.size).size < big := by omega
        obtain ⟨v, hv, hq⟩ := lex_number_loop (n := n) (s0 := t) hsz (t.size - 1) 0 (by omega) n 0 (by omega)
        have hc : numF (t.extract 1 t.size) (t.size - 1) 0 0 = numF t (t.size - 1) 1 0 :=
          numF_congr _ fun i hi => by rw [Nat.zero_add]; exact bt_ext (by omega) (Nat.le_refl _)
        rw [e1] at hv
        rw [hc] at hv hq
        rw [h45] at hv hq
        refine ⟨v, ?_, fun q h => by rw [hq q h]; rfl⟩
        first
          | (rw [show ((0 : Nat) : Int) = 0 from rfl] at hv; rw [hv]; cases numF t (t.size - 1) 1 0 <;> rfl)
  | false =>
    have g3 : ¬ (t.size = 0) := by omega
    simp only [g3, decide_false, cond_false]
    have hdec : decide ((t.size : Int) > 1) = decide (t.size > 1) := by
      by_cases h : t.size > 1
      · have : (t.size : Int) > 1 := by omega
        simp [h, this]
      · have : ¬ (t.size : Int) > 1 := by omega
        simp [h, this]
    obtain ⟨v, hv, hq⟩ := lex_number_loop (n := n) (s0 := t) ht t.size 0 (by omega) n 0 hn
    rw [h45] at hv hq
    rw [show ((0 : Nat) : Int) = 0 from rfl] at hv
    have fin : ∃ v, lex_number_l8 n t n t (t.size : Int) 0 0 = some ((v, ((match numF t t.size 0 0 with
          | some m => bif m == -9223372036854775808 then none else some (W (0 - m))
          | none => none : Option Int).isSome, ())), ()) ∧ ∀ q, (match numF t t.size 0 0 with
          | some m => bif m == -9223372036854775808 then none else some (W (0 - m))
          | none => none : Option Int) = some q → v = q := by
      refine ⟨v, ?_, ?_⟩
      · rw [hv]
        cases numF t t.size 0 0 with
        | none => rfl
        | some m => simp only [Bool.false_or, bne]; cases m == -9223372036854775808 <;> rfl
      · intro q h
        cases hm : numF t t.size 0 0 with
        | none => rw [hm] at h; cases h
        | some m =>
          rw [hm] at h
          simp only at h
          rw [hq m hm]
          cases hb : m == -9223372036854775808 with
          | true => rw [hb] at h; cases h
          | false => rw [hb] at h; cases h; rfl
    cases h48 : bt t 0 == 48 with
    | true =>
      simp only [cond_true, hdec, Bool.true_and]
      by_cases h2 : t.size > 1
      · simp only [h2, decide_true, cond_true]; exact ⟨0, rfl, fun q hq => by cases hq⟩
      · simp only [h2, decide_false, cond_false]; exact fin
    | false =>
      simp only [cond_false, Bool.false_and]
      exact fin
theorem numT_ext {s : ByteArray} {a e : Nat} (h1 : a < e) (h2 : e ≤ s.size) : numT (s.extract a e) = numS s a e := by
  unfold numT numS
  have e1 : (s.extract a e).size = e - a := size_ext (by omega) h2
  have b0 : bt (s.extract a e) 0 = bt s (a : Int) := by
    have := bt_ext (s := s) (a := a) (b := e) (k := 0) (by omega) h2
    simpa using this
  rw [e1, b0]
  have d1 : decide (e - a ≤ 1) = decide (e ≤ a + 1) := by
    by_cases h : e ≤ a + 1
    · have : e - a ≤ 1 := by omega
      simp [h, this]
    · have : ¬ e - a ≤ 1 := by omega
      simp [h, this]
  have d2 : decide (e - a > 1) = decide (e > a + 1) := by
    by_cases h : e > a + 1
    · have : e - a > 1 := by omega
      simp [h, this]
    · have : ¬ e - a > 1 := by omega
      simp [h, this]
  rw [d1, d2]
  have c0 : numF (s.extract a e) (e - a) 0 0 = numF s (e - a) a 0 :=
    numF_congr _ fun i hi => by rw [Nat.zero_add]; exact bt_ext (by omega) h2
  rw [c0]
  by_cases hle : e ≤ a + 1
  · simp only [hle, decide_true, cond_true]
    cases numF s (e - a) a 0 <;> rfl
  · have b1 : bt (s.extract a e) 1 = bt s ((a + 1 : Nat) : Int) := by
      have := bt_ext (s := s) (a := a) (b := e) (k := 1) (by omega) h2
      simpa using this
    have c1 : numF (s.extract a e) (e - a - 1) 1 0 = numF s (e - (a + 1)) (a + 1) 0 := by
      rw [show e - a - 1 = e - (a + 1) from by omega]
      exact numF_congr _ fun i hi => by
        rw [bt_ext (s := s) (by omega) h2, show a + (1 + i) = a + 1 + i from by omega]
    rw [b1, c1]
    cases numF s (e - a) a 0 <;> rfl

section
variable {s : ByteArray} (hs : s.size < big)
include hs
theorem lex_quoted_q {n j : Nat} (hn : s.size < n) (hj : j < s.size) :
    lex_quoted_v n s (j : Int) = bif decide (over isPlain s (j + 1) < s.size) && bt s ((over isPlain s (j + 1) : Nat) : Int) == 34 then
      some ((s.extract (j + 1) (over isPlain s (j + 1)), (((over isPlain s (j + 1) + 1 : Nat) : Int), (true, ()))), ())
    else some ((ByteArray.mk #[], (0, (false, ()))), ()) := by
  rw [lex_quoted_e, wrap_succ (by omega), over_plain_q hs hn (by omega)]
  simp only [obind_some]
  have hl := over_le (p := isPlain) (s := s) (j := j + 1) (by omega)
  generalize over isPlain s (j + 1) = e at hl ⊢
  by_cases he : e < s.size
  · have h1 : ¬ ((e : Int) ≥ (s.size : Int)) := by omega
    have h2 : (0 : Int) ≤ (e : Int) := by omega
    have h3 : (e : Int) < (s.size : Int) := by omega
    have h4 : (0 : Int) ≤ ((j + 1 : Nat) : Int) := by omega
    have h5 : ((j + 1 : Nat) : Int) ≤ (e : Int) := by omega
    have h6 : (e : Int) ≤ (s.size : Int) := by omega
    rw [wrap_succ (by omega)]
    simp only [h1, h2, h3, h4, h5, h6, he, decide_false, decide_true, cond_false, if_true, Bool.true_and, bne, Int.toNat_natCast]
    cases bt s (e : Int) == 34 <;> rfl
  · have h1 : ((e : Int) ≥ (s.size : Int)) := by omega
    simp only [h1, he, decide_true, decide_false, cond_true, Bool.false_and, cond_false]

theorem lex_one_q {n j : Nat} (hn : s.size < n) (hj : j < s.size) :
    match oneS s j with
    | some (k, x, v, e) => (if x.size > 32 then ∃ t, lex_one_v n s (j : Int) = some ((t, (0, (71, ()))), ()) else lex_one_v n s (j : Int) = some (((k, (x, (v, ((j : Int), ())))), ((e : Int), (0, ()))), ()))
    | none => ∃ t, lex_one_v n s (j : Int) = some ((t, (0, (70, ()))), ()) := by
  rw [lex_one_e]
  unfold oneS
  have h1 : (0 : Int) ≤ (j : Int) := by omega
  have h2 : (j : Int) < (s.size : Int) := by omega
  have w1 : IntKind.wrap IntKind.i64 ((j : Int) + 1) = ((j + 1 : Nat) : Int) := wrap_succ (by omega)
  have li := over_le (p := isInner) (s := s) (j := j) (by omega)
  have ld := over_le (p := isDigit) (s := s) (j := j + 1) (by omega)
  simp only [h1, h2, if_true, w1, lex_small_q, lex_great_q, lex_digit_q, obind_some, over_inner_q hs hn (Nat.le_of_lt hj), over_digit_q hs hn (show j + 1 ≤ s.size from hj), lex_quoted_q hs hn hj]
  have i1 : (j : Int) ≤ ((over isInner s j : Nat) : Int) := by omega
  have i2 : ((over isInner s j : Nat) : Int) ≤ (s.size : Int) := by omega
  have i3 : (j : Int) ≤ ((over isDigit s (j + 1) : Nat) : Int) := by omega
  have i4 : ((over isDigit s (j + 1) : Nat) : Int) ≤ (s.size : Int) := by omega
  have big32 : ∀ x : ByteArray, decide ((x.size : Int) > 32) = decide (x.size > 32) := fun x => by
    by_cases h : x.size > 32
    · have : (x.size : Int) > 32 := by omega
      simp [h, this]
    · have : ¬ (x.size : Int) > 32 := by omega
      simp [h, this]
  simp only [i1, i2, i3, i4, if_true, Int.toNat_natCast, big32]
  have word : ∀ kd : Int, ∀ r : Option ((((Int × ByteArray × Int × Int × Unit) × Int × Int × Unit)) × Unit),
      r = (bif decide ((s.extract j (over isInner s j)).size > 32) then some (((kd, (s.extract j (over isInner s j), (0, ((j : Int), ())))), (0, (71, ()))), ())
        else some (((kd, (s.extract j (over isInner s j), (0, ((j : Int), ())))), (((over isInner s j : Nat) : Int), (0, ()))), ())) →
      (if (s.extract j (over isInner s j)).size > 32 then ∃ t, r = some ((t, (0, (71, ()))), ()) else r = some (((kd, (s.extract j (over isInner s j), (0, ((j : Int), ())))), (((over isInner s j : Nat) : Int), (0, ()))), ())) := by
    intro kd r hr
    by_cases h : (s.extract j (over isInner s j)).size > 32
    · rw [if_pos h, hr]; simp only [h, decide_true, cond_true]; exact ⟨_, rfl⟩
    · rw [if_neg h, hr]; simp only [h, decide_false, cond_false]
  cases hsm : isSmall (bt s (j : Int)) with
  | true => simp only [cond_true]; exact word 1 _ rfl
  | false =>
  simp only [cond_false]
  cases hgr : isGreat (bt s (j : Int)) with
  | true => simp only [cond_true]; exact word 2 _ rfl
  | false =>
  simp only [cond_false]
  have e1 : (s.extract j (over isDigit s (j + 1))).size = over isDigit s (j + 1) - j := size_ext (by omega) ld.2
  obtain ⟨v, hv, hq⟩ := lex_number_q (n := n) (t := s.extract j (over isDigit s (j + 1))) (by omega) (by omega) (by omega)
  rw [numT_ext (by omega) ld.2] at hv hq
  simp only [hv, obind_some]
  have num : ∀ r : Option ((((Int × ByteArray × Int × Int × Unit) × Int × Int × Unit)) × Unit),
      r = (bif (!(numS s j (over isDigit s (j + 1))).isSome) then some (((0, (ByteArray.mk #[], (0, ((j : Int), ())))), (0, (70, ()))), ())
        else some (((3, (ByteArray.mk #[], (v, ((j : Int), ())))), (((over isDigit s (j + 1) : Nat) : Int), (0, ()))), ())) →
      (match (match numS s j (over isDigit s (j + 1)) with
        | some m => some ((3 : Int), ByteArray.mk #[], m, over isDigit s (j + 1))
        | none => none) with
      | some (k, x, v, e) => (if x.size > 32 then ∃ t, r = some ((t, (0, (71, ()))), ()) else r = some (((k, (x, (v, ((j : Int), ())))), ((e : Int), (0, ()))), ()))
      | none => ∃ t, r = some ((t, (0, (70, ()))), ())) := by
    intro r hr
    cases hm : numS s j (over isDigit s (j + 1)) with
    | none =>
      rw [hm] at hr
      exact ⟨_, hr⟩
    | some m =>
      rw [hm] at hr
      have := hq m hm
      subst this
      simp only
      rw [if_neg (by decide)]
      exact hr
  cases hdi : isDigit (bt s (j : Int)) with
  | true => simp only [cond_true, Bool.true_or]; exact num _ rfl
  | false =>
  simp only [cond_false, Bool.false_or]
  cases h45 : bt s (j : Int) == 45 with
  | true => simp only [cond_true]; exact num _ rfl
  | false =>
  simp only [cond_false]
  cases h34 : bt s (j : Int) == 34 with
  | true =>
    simp only [cond_true]
    cases hc : (decide (over isPlain s (j + 1) < s.size) && bt s ((over isPlain s (j + 1) : Nat) : Int) == 34) with
    | false => simp only [cond_false, obind_some, Bool.not_false, cond_true]; exact ⟨_, rfl⟩
    | true =>
      simp only [cond_true, obind_some, Bool.not_true, cond_false]
      by_cases h : (s.extract (j + 1) (over isPlain s (j + 1))).size > 32
      · rw [if_pos h]; simp only [h, decide_true, cond_true]; exact ⟨_, rfl⟩
      · rw [if_neg h]; simp only [h, decide_false, cond_false]
  | false =>
  simp only [cond_false]
  have k2 : (j : Int) ≤ ((j + 1 : Nat) : Int) := by omega
  have k3 : ((j + 1 : Nat) : Int) ≤ (s.size : Int) := by omega
  have k4 : (0 : Int) ≤ ((j + 1 : Nat) : Int) := by omega
  have x1 : ¬ (s.extract j (j + 1)).size > 32 := by rw [size_ext (by omega) hj]; omega
  have hlt : decide (((j + 1 : Nat) : Int) < (s.size : Int)) = decide (j + 1 < s.size) := decide_eq_decide.2 (by omega)
  simp only [k2, k3, k4, if_true, x1, decide_false, cond_false, if_false, hlt]
  cases h58 : bt s (j : Int) == 58 with
  | true =>
    have hb : bt s (j : Int) = 58 := by simpa using h58
    simp only [cond_true, Bool.true_and, hb]
    by_cases hl : j + 1 < s.size
    · have k1 : ((j + 1 : Nat) : Int) < (s.size : Int) := by omega
      have w2 : IntKind.wrap IntKind.i64 (((j + 1 : Nat) : Int) + 1) = ((j + 2 : Nat) : Int) := wrap_succ (by omega)
      have k5 : (j : Int) ≤ ((j + 2 : Nat) : Int) := by omega
      have k6 : ((j + 2 : Nat) : Int) ≤ (s.size : Int) := by omega
      have x2 : ¬ (s.extract j (j + 2)).size > 32 := by rw [size_ext (by omega) (by omega)]; omega
      simp only [hl, decide_true, cond_true, k1, if_true, Bool.true_and, w2, k5, k6, Int.toNat_natCast, x2, decide_false, cond_false]
      cases h45' : bt s ((j + 1 : Nat) : Int) == 45 with
      | true => simp only [cond_true, x2, if_false]
      | false => simp only [Int.reduceBEq, Bool.or_self, Bool.or_true, Bool.false_or, cond_true, cond_false, x1, if_false]
    · simp only [hl, decide_false, Bool.false_and, Int.reduceBEq, Bool.or_self, Bool.or_true, Bool.false_or, cond_true, cond_false, x1, if_false]
  | false =>
    simp only [cond_false, Bool.false_and, Bool.or_false]
    cases bt s (j : Int) == 40 <;> cases bt s (j : Int) == 41 <;> cases bt s (j : Int) == 44 <;> cases bt s (j : Int) == 46 <;> simp only [Bool.or_self, Bool.or_true, Bool.true_or, Bool.false_or, Bool.or_false, cond_true, cond_false, x1, if_false] <;> exact ⟨_, rfl⟩
end
end Go.Den
