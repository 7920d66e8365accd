import Derived.Test.YtlpnccpagikioaaDoorDen25
set_option linter.unusedVariables false
set_option linter.unusedSimpArgs false
set_option linter.unusedSectionVars false
/- Plain facts for texts: bytes, runs. -/
namespace Go.Den
theorem bt_ext {s : ByteArray} {a b k : Nat} (h1 : a + k < b) (h2 : b ≤ s.size) : bt (s.extract a b) (k : Int) = bt s ((a + k : Nat) : Int) := by
  unfold bt
  simp only [Int.toNat_natCast]
  congr 2
  have e : (s.extract a b).data = s.data.extract a b := ByteArray.data_extract
  rw [e, Array.toList_extract]
  simp only [List.getD_eq_getElem?_getD, List.extract_eq_take_drop]
  congr 1
  rw [List.getElem?_take, if_pos (by omega), List.getElem?_drop]
theorem size_ext {s : ByteArray} {a b : Nat} (h1 : a ≤ b) (h2 : b ≤ s.size) : (s.extract a b).size = b - a := by
  rw [ByteArray.size_extract]; omega
theorem bt_app1 {s t : ByteArray} {k : Nat} (h : k < s.size) : bt (s ++ t) (k : Int) = bt s (k : Int) := by
  unfold bt
  simp only [Int.toNat_natCast]
  congr 2
  rw [ByteArray.data_append, Array.toList_append]
  simp only [List.getD_eq_getElem?_getD]
  congr 1
  rw [List.getElem?_append_left]
  rw [Array.length_toList]; exact h
theorem bt_app2 {s t : ByteArray} {k : Nat} : bt (s ++ t) ((s.size + k : Nat) : Int) = bt t (k : Int) := by
  unfold bt
  simp only [Int.toNat_natCast]
  congr 2
  rw [ByteArray.data_append, Array.toList_append]
  simp only [List.getD_eq_getElem?_getD]
  congr 1
  have : s.size = s.data.toList.length := by rw [Array.length_toList]; rfl
  rw [this, List.getElem?_append_right (by omega)]
  congr 1
  omega
theorem bt_range (s : ByteArray) (i : Int) : 0 ≤ bt s i ∧ bt s i < 256 := by
  unfold bt
  have := (s.data.toList.getD i.toNat 0).toNat_lt
  omega
/-- Where a run of bytes ends: at most k more. -/
def overF (p : Int → Bool) (s : ByteArray) : Nat → Nat → Nat
  | 0, j => j
  | k + 1, j => bif p (bt s (j : Int)) then overF p s k (j + 1) else j
def over (p : Int → Bool) (s : ByteArray) (j : Nat) : Nat := overF p s (s.size - j) j
theorem overF_le (p : Int → Bool) (s : ByteArray) : ∀ k j, j ≤ overF p s k j ∧ overF p s k j ≤ j + k
  | 0, j => ⟨Nat.le_refl _, Nat.le_refl _⟩
  | k + 1, j => by
    unfold overF
    cases p (bt s (j : Int)) with
    | true => have := overF_le p s k (j + 1); simp only [cond_true]; omega
    | false => simp only [cond_false]; omega
theorem over_le {p : Int → Bool} {s : ByteArray} {j : Nat} (h : j ≤ s.size) : j ≤ over p s j ∧ over p s j ≤ s.size := by
  have := overF_le p s (s.size - j) j
  unfold over; omega
theorem over_step {p : Int → Bool} {s : ByteArray} {j : Nat} (h : j < s.size) (hp : p (bt s (j : Int)) = true) : over p s j = over p s (j + 1) := by
  unfold over
  obtain ⟨k, hk⟩ : ∃ k, s.size - j = k + 1 := ⟨s.size - j - 1, by omega⟩
  rw [hk]
  simp only [overF, hp, cond_true]
  congr 1; omega
theorem over_stop {p : Int → Bool} {s : ByteArray} {j : Nat} (hp : p (bt s (j : Int)) = false) : over p s j = j := by
  unfold over
  cases s.size - j with
  | zero => rfl
  | succ k => simp only [overF, hp, cond_false]
theorem over_end {p : Int → Bool} {s : ByteArray} {j : Nat} (h : s.size ≤ j) : over p s j = j := by
  unfold over
  rw [Nat.sub_eq_zero_of_le h]; rfl
theorem over_gt {p : Int → Bool} {s : ByteArray} {j : Nat} (h : j < s.size) (hp : p (bt s (j : Int)) = true) : j < over p s j := by
  rw [over_step h hp]; have := over_le (p := p) (s := s) (j := j + 1) h; omega
/-- all within the run are so -/
theorem over_in (p : Int → Bool) (s : ByteArray) : ∀ k j, ∀ i, j ≤ i → i < overF p s k j → p (bt s (i : Int)) = true
  | 0, j, i, h1, h2 => by simp only [overF] at h2; omega
  | k + 1, j, i, h1, h2 => by
    unfold overF at h2
    cases hp : p (bt s (j : Int)) with
    | true =>
      rw [hp] at h2
      simp only [cond_true] at h2
      by_cases hi : i = j
      · subst hi; exact hp
      · exact over_in p s k (j + 1) i (by omega) h2
    | false => rw [hp] at h2; simp only [cond_false] at h2; omega
theorem over_out (p : Int → Bool) (s : ByteArray) : ∀ k j, overF p s k j < j + k → p (bt s ((overF p s k j : Nat) : Int)) = false
  | 0, j, h => by simp only [overF] at h; omega
  | k + 1, j, h => by
    unfold overF at h ⊢
    cases hp : p (bt s (j : Int)) with
    | true =>
      rw [hp] at h
      simp only [cond_true] at h ⊢
      exact over_out p s k (j + 1) (by omega)
    | false => simp only [cond_false]; exact hp
/-- what a run is -/
theorem over_unique {p : Int → Bool} {s : ByteArray} {j e : Nat} (h1 : j ≤ e) (h2 : e ≤ s.size) (hin : ∀ i, j ≤ i → i < e → p (bt s (i : Int)) = true) (hout : e < s.size → p (bt s (e : Int)) = false) : over p s j = e := by
  have a1 := over_le (p := p) (s := s) (j := j) (by omega)
  rcases Nat.lt_trichotomy (over p s j) e with h | h | h
  · have := hin (over p s j) a1.1 h
    have b := over_out p s (s.size - j) j (by show over p s j < _; omega)
    rw [show overF p s (s.size - j) j = over p s j from rfl] at b
    rw [this] at b; cases b
  · exact h
  · have := over_in p s (s.size - j) j e h1 h
    rw [hout (by omega)] at this; cases this
theorem over_gen {F : Nat → Int → Option (Int × Unit)} {s : ByteArray} {p : Int → Bool} (hs : s.size < big)
    (hF : ∀ i j, F (i + 1) j = bif decide (j < (s.size : Int)) then if 0 ≤ j then if j < (s.size : Int) then (bif p (bt s j) then F i (IntKind.wrap IntKind.i64 (j + 1)) else some (j, ())) else none else none else some (j, ())) :
    ∀ k j : Nat, j + k = s.size → ∀ i, k < i → F i (j : Int) = some (((overF p s k j : Nat) : Int), ())
  | 0, j, hj, i, hi => by
    obtain ⟨i, rfl⟩ : ∃ m, i = m + 1 := ⟨i - 1, by omega⟩
    rw [hF]
    have h1 : ¬ ((j : Int) < (s.size : Int)) := by omega
    simp only [h1, decide_false, cond_false, overF]
  | k + 1, j, hj, i, hi => by
    obtain ⟨i, rfl⟩ : ∃ m, i = m + 1 := ⟨i - 1, by omega⟩
    rw [hF]
    have h1 : (j : Int) < (s.size : Int) := by omega
    have h0 : (0 : Int) ≤ (j : Int) := by omega
    simp only [h1, h0, decide_true, cond_true, if_true, overF]
    cases p (bt s (j : Int)) with
    | true =>
      simp only [cond_true]
      rw [wrap_succ (by omega)]
      exact over_gen hs hF k (j + 1) (by omega) i (by omega)
    | false => rfl
/-- from a place on, with rounds enough -/
theorem over_at {F : Nat → Int → Option (Int × Unit)} {s : ByteArray} {p : Int → Bool} (hs : s.size < big)
    (hF : ∀ i j, F (i + 1) j = bif decide (j < (s.size : Int)) then if 0 ≤ j then if j < (s.size : Int) then (bif p (bt s j) then F i (IntKind.wrap IntKind.i64 (j + 1)) else some (j, ())) else none else none else some (j, ()))
    {n j : Nat} (hn : s.size < n) (hj : j ≤ s.size) : F n (j : Int) = some (((over p s j : Nat) : Int), ()) :=
  over_gen hs hF (s.size - j) j (by omega) n (by omega)
end Go.Den
