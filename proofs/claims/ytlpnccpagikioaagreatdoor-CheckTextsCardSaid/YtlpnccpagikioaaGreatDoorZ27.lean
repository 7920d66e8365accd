import Derived.Test.YtlpnccpagikioaaGreatDoorZ09
set_option linter.unusedVariables false
set_option linter.unusedSimpArgs false
set_option linter.unusedSectionVars false
namespace Go.Den
open Go.Proofs
theorem app_size (s w : ByteArray) : (s ++ w).size = s.size + w.size := by simp
theorem ext_app {s w : ByteArray} {a b : Nat} (h : b ≤ s.size) : (s ++ w).extract a b = s.extract a b := by
  apply ByteArray.ext
  rw [ByteArray.data_extract, ByteArray.data_extract, ByteArray.data_append]
  apply Array.ext'
  rw [Array.toList_extract, Array.toList_extract, Array.toList_append]
  simp only [List.extract_eq_take_drop]
  have hl : s.data.toList.length = s.size := by rw [Array.length_toList]; rfl
  by_cases hab : a ≤ b
  · rw [List.drop_append_of_le_length (by omega), List.take_append_of_le_length (by rw [List.length_drop]; omega)]
  · rw [show b - a = 0 from by omega]; rfl
theorem ext_app2 {u b : ByteArray} {x y : Nat} : (u ++ b).extract (u.size + x) (u.size + y) = b.extract x y := by
  apply ByteArray.ext
  rw [ByteArray.data_extract, ByteArray.data_extract, ByteArray.data_append]
  apply Array.ext'
  rw [Array.toList_extract, Array.toList_extract, Array.toList_append]
  simp only [List.extract_eq_take_drop]
  have hl : u.data.toList.length = u.size := by rw [Array.length_toList]; rfl
  rw [show u.size + y - (u.size + x) = y - x from by omega, ← hl, List.drop_append, List.drop_eq_nil_of_le (by omega)]
  simp
theorem over_app {p : Int → Bool} {s w : ByteArray} {j : Nat} (hj : j ≤ s.size) : (over p s j < s.size → over p (s ++ w) j = over p s j) ∧ (over p s j = s.size → over p (s ++ w) j = over p (s ++ w) s.size) := by
  have hl := over_le (p := p) (s := s) (j := j) hj
  have hsz := app_size s w
  have hin : ∀ i, j ≤ i → i < over p s j → p (bt (s ++ w) (i : Int)) = true := fun i a b => by
    rw [bt_app1 (by omega)]; exact over_in p s _ _ i a b
  constructor
  · intro h
    refine over_unique hl.1 (by omega) hin fun _ => ?_
    rw [bt_app1 h]
    exact over_out p s _ _ (by show over p s j < _; omega)
  · intro h
    have hl2 := over_le (p := p) (s := s ++ w) (j := s.size) (by omega)
    refine over_unique (by omega) hl2.2 (fun i a b => ?_) fun hlt => over_out p (s ++ w) _ _ (by show over p (s ++ w) s.size < _; omega)
    by_cases hi : i < s.size
    · exact hin i a (by omega)
    · exact over_in p (s ++ w) _ _ i (by omega) b
theorem over_app_stop {p : Int → Bool} {s w : ByteArray} {j : Nat} (hj : j ≤ s.size) (hw : p (bt w 0) = false) : over p (s ++ w) j = over p s j := by
  have h := over_app (p := p) (w := w) hj
  have hl := over_le (p := p) (s := s) (j := j) hj
  by_cases hlt : over p s j < s.size
  · exact h.1 hlt
  · have he : over p s j = s.size := by omega
    rw [h.2 he, he]
    refine over_stop ?_
    have := bt_app2 (s := s) (t := w) (k := 0)
    rw [Nat.add_zero] at this
    rw [this]; exact hw
theorem over_shift {p : Int → Bool} {u b : ByteArray} {j : Nat} (hj : j ≤ b.size) : over p (u ++ b) (u.size + j) = u.size + over p b j := by
  have hl := over_le (p := p) (s := b) (j := j) hj
  have hsz := app_size u b
  refine over_unique (by omega) (by omega) (fun i h1 h2 => ?_) fun h => ?_
  · obtain ⟨q, rfl⟩ : ∃ q, i = u.size + q := ⟨i - u.size, by omega⟩
    rw [bt_app2]; exact over_in p b (b.size - j) j q (by omega) (by show q < over p b j; omega)
  · rw [bt_app2]; exact over_out p b _ _ (by show over p b j < _; omega)
theorem numS_congr {s t : ByteArray} {a a' e e' : Nat} (he : e' - a' = e - a) (hae : a < e) (hae' : a' < e') (h : ∀ i, i < e - a → bt s ((a + i : Nat) : Int) = bt t ((a' + i : Nat) : Int)) : numS s a e = numS t a' e' := by
  unfold numS
  have h0 := h 0 (by omega)
  rw [Nat.add_zero, Nat.add_zero] at h0
  have c0 : numF s (e - a) a 0 = numF t (e' - a') a' 0 := by rw [he]; exact numF_congr _ h
  have d1 : decide (e ≤ a + 1) = decide (e' ≤ a' + 1) := decide_eq_decide.2 (by omega)
  have d2 : decide (e > a + 1) = decide (e' > a' + 1) := decide_eq_decide.2 (by omega)
  rw [h0, c0, d1, d2]
  by_cases hle : e' ≤ a' + 1
  · simp only [hle, decide_true, cond_true]
  · have h1 := h 1 (by omega)
    have c1 : numF s (e - (a + 1)) (a + 1) 0 = numF t (e' - (a' + 1)) (a' + 1) 0 := by
      rw [show e' - (a' + 1) = e - (a + 1) from by omega]
      exact numF_congr _ fun i hi => by
        have := h (i + 1) (by omega)
        rw [show a + 1 + i = a + (i + 1) from by omega, show a' + 1 + i = a' + (i + 1) from by omega]; exact this
    rw [h1, c1]
theorem digit_inner {c : Int} (h : isInner c = false) : isDigit c = false := by
  unfold isInner at h
  simp only [Bool.or_eq_false_iff] at h
  exact h.2.2.1
theorem skipF_shift {u w : ByteArray} : ∀ k b i, skipF (u ++ w) k b (u.size + i) = u.size + skipF w k b i
  | 0, b, i => rfl
  | k + 1, b, i => by
    unfold skipF
    rw [bt_app2, show u.size + i + 1 = u.size + (i + 1) from by omega, skipF_shift k, skipF_shift k, skipF_shift k]
    cases bt w (i : Int) == 37 <;> cases bt w (i : Int) == 10 <;> cases (!b && !isBlank (bt w (i : Int))) <;> rfl
theorem skip_shift {u w : ByteArray} {j : Nat} : skip (u ++ w) (u.size + j) = u.size + skip w j := by
  unfold skip
  rw [app_size, show u.size + w.size - (u.size + j) = w.size - j from by omega, skipF_shift]
end Go.Den
