import Derived.Test.YtbdjanjcphgjdaaGreatDoorZ03
set_option linter.unusedVariables false
set_option linter.unusedSimpArgs false
set_option linter.unusedSectionVars false
namespace Go.Den
theorem bt_ext {s : ByteArray} {a b k : Nat} (h1 : a + k < b) (h2 : b ≤ s.size) : bt (s.extract a b) (k : Int) = bt s ((a + k : Nat) : Int) := by
 unfold bt
 simp only [Int.toNat_natCast]
 congr 2
 have e : (s.extract a b).data = s.data.extract a b := ByteArray.data_extract
 rw [e, Array.toList_extract]
 simp only [List.getD_eq_getElem?_getD, List.extract_eq_take_drop]
 congr 1
 rw [List.getElem?_take, if_pos (by omega), List.getElem?_drop]
theorem size_ext {s : ByteArray} {a b : Nat} (h1 : a ≤ b) (h2 : b ≤ s.size) : (s.extract a b).size = b - a := by
 rw [ByteArray.size_extract]; omega
def overF (p : Int → Bool) (s : ByteArray) : Nat → Nat → Nat
 |0, j => j
 |k + 1, j => bif p (bt s (j : Int)) then overF p s k (j + 1) else j
def over (p : Int → Bool) (s : ByteArray) (j : Nat) : Nat := overF p s (s.size - j) j
theorem overF_le (p : Int → Bool) (s : ByteArray) : ∀ k j, j ≤ overF p s k j ∧ overF p s k j ≤ j + k
 |0, j => ⟨Nat.le_refl _, Nat.le_refl _⟩
 |k + 1, j => by
  unfold overF
  cases p (bt s (j : Int)) with
  |true => have := overF_le p s k (j + 1); simp only [cond_true]; omega
  |false => simp only [cond_false]; omega
theorem over_le {p : Int → Bool} {s : ByteArray} {j : Nat} (h : j ≤ s.size) : j ≤ over p s j ∧ over p s j ≤ s.size := by
 have := overF_le p s (s.size - j) j
 unfold over; omega
theorem over_step {p : Int → Bool} {s : ByteArray} {j : Nat} (h : j < s.size) (hp : p (bt s (j : Int)) = true) : over p s j = over p s (j + 1) := by
 unfold over
 obtain ⟨k, hk⟩ : ∃ k, s.size - j = k + 1 := ⟨s.size - j - 1, by omega⟩
 rw [hk]
 simp only [overF, hp, cond_true]
 congr 1; omega
theorem over_stop {p : Int → Bool} {s : ByteArray} {j : Nat} (hp : p (bt s (j : Int)) = false) : over p s j = j := by
 unfold over
 cases s.size - j with
 |zero => rfl
 |succ k => simp only [overF, hp, cond_false]
theorem over_end {p : Int → Bool} {s : ByteArray} {j : Nat} (h : s.size ≤ j) : over p s j = j := by
 unfold over
 rw [Nat.sub_eq_zero_of_le h]; rfl
theorem over_gt {p : Int → Bool} {s : ByteArray} {j : Nat} (h : j < s.size) (hp : p (bt s (j : Int)) = true) : j < over p s j := by
 rw [over_step h hp]; have := over_le (p := p) (s := s) (j := j + 1) h; omega
theorem over_gen {F : Nat → Int → Option (Int × Unit)} {s : ByteArray} {p : Int → Bool} (hs : s.size < big)
  (hF : ∀ i j, F (i + 1) j = bif decide (j < (s.size : Int)) then if 0 ≤ j then if j < (s.size : Int) then (bif p (bt s j) then F i (IntKind.wrap IntKind.i64 (j + 1)) else some (j, ())) else none else none else some (j, ())) :
  ∀ k j : Nat, j + k = s.size → ∀ i, k < i → F i (j : Int) = some (((overF p s k j : Nat) : Int), ())
 |0, j, hj, i, hi => by
  obtain ⟨i, rfl⟩ : ∃ m, i = m + 1 := ⟨i - 1, by omega⟩
  rw [hF]
  have h1 : ¬ ((j : Int) < (s.size : Int)) := by omega
  simp only [h1, decide_false, cond_false, overF]
 |k + 1, j, hj, i, hi => by
  obtain ⟨i, rfl⟩ : ∃ m, i = m + 1 := ⟨i - 1, by omega⟩
  rw [hF]
  have h1 : (j : Int) < (s.size : Int) := by omega
  have h0 : (0 : Int) ≤ (j : Int) := by omega
  simp only [h1, h0, decide_true, cond_true, if_true, overF]
  cases p (bt s (j : Int)) with
  |true =>
   simp only [cond_true]
   rw [wrap_succ (by omega)]
   exact over_gen hs hF k (j + 1) (by omega) i (by omega)
  |false => rfl
theorem over_at {F : Nat → Int → Option (Int × Unit)} {s : ByteArray} {p : Int → Bool} (hs : s.size < big)
  (hF : ∀ i j, F (i + 1) j = bif decide (j < (s.size : Int)) then if 0 ≤ j then if j < (s.size : Int) then (bif p (bt s j) then F i (IntKind.wrap IntKind.i64 (j + 1)) else some (j, ())) else none else none else some (j, ()))
  {n j : Nat} (hn : s.size < n) (hj : j ≤ s.size) : F n (j : Int) = some (((over p s j : Nat) : Int), ()) :=
 over_gen hs hF (s.size - j) j (by omega) n (by omega)
end Go.Den
namespace Go.Den
@[reducible] def W (z : Int) : Int := IntKind.wrap IntKind.i64 z
def isBlank (c : Int) : Bool := c == 32 || (c == 9 || (c == 10 || c == 13))
def isSmall (c : Int) : Bool := decide (c ≥ 97) && decide (c ≤ 122)
def isGreat (c : Int) : Bool := decide (c ≥ 65) && decide (c ≤ 90)
def isDigit (c : Int) : Bool := decide (c ≥ 48) && decide (c ≤ 57)
def isInner (c : Int) : Bool := isSmall c || (isGreat c || (isDigit c || c == 95))
def isPlain (c : Int) : Bool := decide (c ≥ 32) && (decide (c ≤ 126) && (c != 34 && c != 92))
def notLine (c : Int) : Bool := c != 10

def skipF (s : ByteArray) : Nat → Bool → Nat → Nat
 |0, _, j => j
 |k + 1, note, j =>
  bif bt s (j : Int) == 37 then skipF s k true (j + 1)
  else bif bt s (j : Int) == 10 then skipF s k false (j + 1)
  else bif !note && !isBlank (bt s (j : Int)) then j
  else skipF s k note (j + 1)
def skip (s : ByteArray) (j : Nat) : Nat := skipF s (s.size - j) false j
theorem skipF_le (s : ByteArray) : ∀ k b j, j ≤ skipF s k b j ∧ skipF s k b j ≤ j + k
 |0, b, j => ⟨Nat.le_refl _, Nat.le_refl _⟩
 |k + 1, b, j => by
  unfold skipF
  have h1 := skipF_le s k true (j + 1)
  have h2 := skipF_le s k false (j + 1)
  have h3 := skipF_le s k b (j + 1)
  cases bt s (j : Int) == 37 <;> cases bt s (j : Int) == 10 <;> cases (!b && !isBlank (bt s (j : Int))) <;> simp only [cond_true, cond_false] <;> omega
theorem skip_le {s : ByteArray} {j : Nat} (h : j ≤ s.size) : j ≤ skip s j ∧ skip s j ≤ s.size := by
 have := skipF_le s (s.size - j) false j
 unfold skip; omega
theorem skipF_note (s : ByteArray) : ∀ k j, skipF s k true j = skipF s (k - (overF notLine s k j - j)) false (overF notLine s k j)
 |0, j => by simp [overF, skipF]
 |k + 1, j => by
  unfold overF
  cases hn : notLine (bt s (j : Int)) with
  |true =>
   simp only [cond_true]
   have hl := overF_le notLine s k (j + 1)
   have h10 : (bt s (j : Int) == 10) = false := by simpa [notLine, bne] using hn
   have e : k + 1 - (overF notLine s k (j + 1) - j) = k - (overF notLine s k (j + 1) - (j + 1)) := by omega
   rw [e, ← skipF_note s k (j + 1)]
   rw [skipF]
   simp only [h10, cond_false, Bool.not_true, Bool.false_and]
   cases bt s (j : Int) == 37 <;> rfl
  |false =>
   simp only [cond_false]
   have h10 : (bt s (j : Int) == 10) = true := by simpa [notLine, bne] using hn
   have h37 : (bt s (j : Int) == 37) = false := by
    have : bt s (j : Int) = 10 := by simpa using h10
    rw [this]; rfl
   rw [show j - j = 0 from by omega, Nat.sub_zero, skipF, skipF]
   simp only [h10, h37, cond_true, cond_false]
theorem skipF_blank (s : ByteArray) : ∀ k j, skipF s k false j = skipF s (k - (overF isBlank s k j - j)) false (overF isBlank s k j)
 |0, j => by simp [overF, skipF]
 |k + 1, j => by
  unfold overF
  cases hb : isBlank (bt s (j : Int)) with
  |true =>
   simp only [cond_true]
   have hl := overF_le isBlank s k (j + 1)
   have e : k + 1 - (overF isBlank s k (j + 1) - j) = k - (overF isBlank s k (j + 1) - (j + 1)) := by omega
   rw [e, ← skipF_blank s k (j + 1)]
   have h37 : (bt s (j : Int) == 37) = false := by
    cases h : bt s (j : Int) == 37 with
    |false => rfl
    |true =>
     have : bt s (j : Int) = 37 := by simpa using h
     rw [this] at hb; cases hb
   rw [skipF]
   simp only [h37, hb, cond_false, Bool.not_true, Bool.and_false]
   cases bt s (j : Int) == 10 <;> rfl
  |false => simp
theorem skip_blank {s : ByteArray} {j : Nat} (h : j ≤ s.size) : skip s j = skip s (over isBlank s j) := by
 unfold skip over
 rw [skipF_blank]
 have := overF_le isBlank s (s.size - j) j
 congr 1; omega
theorem skip_note {s : ByteArray} {j : Nat} (h : j < s.size) (h37 : (bt s (j : Int) == 37) = true) : skip s j = skip s (over notLine s j) := by
 have hp : notLine (bt s (j : Int)) = true := by
  have : bt s (j : Int) = 37 := by simpa using h37
  rw [this]; rfl
 rw [over_step h hp]
 unfold skip over
 obtain ⟨k, hk⟩ : ∃ k, s.size - j = k + 1 := ⟨s.size - j - 1, by omega⟩
 rw [hk, skipF]
 simp only [h37, cond_true]
 rw [skipF_note]
 have := overF_le notLine s k (j + 1)
 rw [show s.size - (j + 1) = k from by omega]
 congr 1; omega
theorem skip_stop {s : ByteArray} {j : Nat} (h37 : (bt s (j : Int) == 37) = false) (hb : isBlank (bt s (j : Int)) = false) : skip s j = j := by
 unfold skip
 cases s.size - j with
 |zero => rfl
 |succ k =>
  have h10 : (bt s (j : Int) == 10) = false := by
   cases h : bt s (j : Int) == 10 with
   |false => rfl
   |true =>
    have : bt s (j : Int) = 10 := by simpa using h
    rw [this] at hb; cases hb
  rw [skipF]
  simp only [h37, h10, hb, cond_false, Bool.not_false, Bool.and_self, cond_true]
theorem skip_end {s : ByteArray} {j : Nat} (h : s.size ≤ j) : skip s j = j := by
 unfold skip; rw [Nat.sub_eq_zero_of_le h]; rfl

def digitMore (n c : Int) : Option Int :=
 bif decide (n < W (Int.tdiv (W (-9223372036854775808 + W (IntKind.wrap IntKind.u8 (c - 48)))) 10)) then none
 else some (W (W (10 * n) - W (IntKind.wrap IntKind.u8 (c - 48))))
attribute [irreducible] digitMore
def numF (s : ByteArray) : Nat → Nat → Int → Option Int
 |0, _, n => some n
 |k + 1, j, n => match digitMore n (bt s (j : Int)) with
  |some m => numF s k (j + 1) m
  |none => none
theorem numF_succ (s : ByteArray) (k j : Nat) (n : Int) : numF s (k + 1) j n = match digitMore n (bt s (j : Int)) with
  |some m => numF s k (j + 1) m
  |none => none := by rw [numF]
theorem numF_congr {s t : ByteArray} (k : Nat) : ∀ {j j' : Nat} {n : Int}, (∀ i, i < k → bt s ((j + i : Nat) : Int) = bt t ((j' + i : Nat) : Int)) → numF s k j n = numF t k j' n := by
 induction k with
 |zero => intro j j' n h; rfl
 |succ k ih =>
  intro j j' n h
  rw [numF_succ, numF_succ]
  have h0 := h 0 (Nat.succ_pos k)
  simp only [Nat.add_zero] at h0
  rw [h0]
  cases digitMore n (bt t (j' : Int)) with
  |none => rfl
  |some m =>
   refine ih fun i hi => ?_
   have := h (i + 1) (by omega)
   rw [show j + 1 + i = j + (i + 1) from by omega, show j' + 1 + i = j' + (i + 1) from by omega]; exact this
def numS (s : ByteArray) (a e : Nat) : Option Int :=
 bif bt s (a : Int) == 45 then
  bif decide (e ≤ a + 1) then none
  else bif bt s ((a + 1 : Nat) : Int) == 48 then none
  else numF s (e - (a + 1)) (a + 1) 0
 else bif bt s (a : Int) == 48 && decide (e > a + 1) then none
 else match numF s (e - a) a 0 with
  |some m => bif m == -9223372036854775808 then none else some (W (0 - m))
  |none => none
def oneS (s : ByteArray) (j : Nat) : Option (Int × ByteArray × Int × Nat) :=
 bif isSmall (bt s (j : Int)) then some (1, s.extract j (over isInner s j), 0, over isInner s j)
 else bif isGreat (bt s (j : Int)) then some (2, s.extract j (over isInner s j), 0, over isInner s j)
 else bif isDigit (bt s (j : Int)) || bt s (j : Int) == 45 then
  match numS s j (over isDigit s (j + 1)) with
  |some m => some (3, ByteArray.mk #[], m, over isDigit s (j + 1))
  |none => none
 else bif bt s (j : Int) == 34 then
  bif decide (over isPlain s (j + 1) < s.size) && bt s ((over isPlain s (j + 1) : Nat) : Int) == 34 then some (4, s.extract (j + 1) (over isPlain s (j + 1)), 0, over isPlain s (j + 1) + 1)
  else none
 else bif bt s (j : Int) == 58 && (decide (j + 1 < s.size) && bt s ((j + 1 : Nat) : Int) == 45) then some (5, s.extract j (j + 2), 0, j + 2)
 else bif bt s (j : Int) == 40 || (bt s (j : Int) == 41 || (bt s (j : Int) == 44 || (bt s (j : Int) == 46 || bt s (j : Int) == 58))) then some (5, s.extract j (j + 1), 0, j + 1)
 else none
theorem oneS_next {s : ByteArray} {j : Nat} (hj : j < s.size) {k v e} {x : ByteArray} (h : oneS s j = some (k, x, v, e)) : j < e ∧ e ≤ s.size := by
 unfold oneS at h
 have a1 := over_le (p := isInner) (s := s) (j := j) (by omega)
 have a2 := over_le (p := isDigit) (s := s) (j := j + 1) (by omega)
 have a3 := over_le (p := isPlain) (s := s) (j := j + 1) (by omega)
 cases h1 : isSmall (bt s (j : Int)) with
 |true =>
  rw [h1] at h; cases h
  have : j < over isInner s j := over_gt hj (by simp [isInner, h1])
  omega
 |false =>
  rw [h1] at h
  cases h2 : isGreat (bt s (j : Int)) with
  |true =>
   rw [h2] at h; cases h
   have : j < over isInner s j := over_gt hj (by simp [isInner, h2])
   omega
  |false =>
   rw [h2] at h
   simp only [cond_false] at h
   cases h3 : (isDigit (bt s (j : Int)) || bt s (j : Int) == 45) with
   |true =>
    rw [h3] at h
    simp only [cond_true] at h
    split at h
    ·cases h; omega
    ·cases h
   |false =>
    rw [h3] at h
    simp only [cond_false] at h
    cases h4 : bt s (j : Int) == 34 with
    |true =>
     rw [h4] at h
     simp only [cond_true] at h
     cases h5 : (decide (over isPlain s (j + 1) < s.size) && bt s ((over isPlain s (j + 1) : Nat) : Int) == 34) with
     |true =>
      rw [h5] at h
      cases h
      simp only [Bool.and_eq_true, decide_eq_true_eq] at h5
      omega
     |false => rw [h5] at h; cases h
    |false =>
     rw [h4] at h
     simp only [cond_false] at h
     cases h5 : (bt s (j : Int) == 58 && (decide (j + 1 < s.size) && bt s ((j + 1 : Nat) : Int) == 45)) with
     |true =>
      rw [h5] at h
      cases h
      simp only [Bool.and_eq_true, decide_eq_true_eq] at h5
      omega
     |false =>
      rw [h5] at h
      simp only [cond_false] at h
      cases h6 : (bt s (j : Int) == 40 || (bt s (j : Int) == 41 || (bt s (j : Int) == 44 || (bt s (j : Int) == 46 || bt s (j : Int) == 58)))) with
      |true => rw [h6] at h; cases h; omega
      |false => rw [h6] at h; cases h
@[reducible] def tokRow (k : Int) (x : ByteArray) (v : Int) (j : Nat) : Row := [.val (.int .i64 k), .val (.string x), .val (.int .i64 v), .val (.int .i64 (j : Int))]
def tokF (s : ByteArray) : Nat → Nat → Except (Nat × Int) Rows
 |0, _ => .ok []
 |k + 1, j =>
  if j < s.size then
   match oneS s j with
   |none => .error (j, 70)
   |some (kd, x, v, e) =>
    if x.size > 32 then .error (j, 71)
    else match tokF s k (skip s e) with
     | .ok l => .ok (tokRow kd x v j :: l)
     | .error e => .error e
  else .ok []
def tokens (s : ByteArray) : Except (Nat × Int) Rows := tokF s (s.size + 1) (skip s 0)
end Go.Den
