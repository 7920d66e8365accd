import Derived.Test.YtlpnccpagikioaaDoorZ08
set_option linter.unusedVariables false
set_option linter.unusedSimpArgs false
set_option linter.unusedSectionVars false
/- A text with another one behind it. -/
namespace Go.Den
open Go.Proofs
theorem app_size (s w : ByteArray) : (s ++ w).size = s.size + w.size := by simp
theorem ext_app {s w : ByteArray} {a b : Nat} (h : b ≤ s.size) : (s ++ w).extract a b = s.extract a b := by
  apply ByteArray.ext
  rw [ByteArray.data_extract, ByteArray.data_extract, ByteArray.data_append]
  apply Array.ext'
  rw [Array.toList_extract, Array.toList_extract, Array.toList_append]
  simp only [List.extract_eq_take_drop]
  have hl : s.data.toList.length = s.size := by rw [Array.length_toList]; rfl
  by_cases hab : a ≤ b
  · rw [List.drop_append_of_le_length (by omega), List.take_append_of_le_length (by rw [List.length_drop]; omega)]
  · rw [show b - a = 0 from by omega]; rfl
theorem ext_app2 {u b : ByteArray} {x y : Nat} : (u ++ b).extract (u.size + x) (u.size + y) = b.extract x y := by
  apply ByteArray.ext
  rw [ByteArray.data_extract, ByteArray.data_extract, ByteArray.data_append]
  apply Array.ext'
  rw [Array.toList_extract, Array.toList_extract, Array.toList_append]
  simp only [List.extract_eq_take_drop]
  have hl : u.data.toList.length = u.size := by rw [Array.length_toList]; rfl
  rw [show u.size + y - (u.size + x) = y - x from by omega, ← hl, List.drop_append, List.drop_eq_nil_of_le (by omega)]
  simp
theorem over_app {p : Int → Bool} {s w : ByteArray} {j : Nat} (hj : j ≤ s.size) : (over p s j < s.size → over p (s ++ w) j = over p s j) ∧ (over p s j = s.size → over p (s ++ w) j = over p (s ++ w) s.size) := by
  have hl := over_le (p := p) (s := s) (j := j) hj
  have hsz := app_size s w
  have hin : ∀ i, j ≤ i → i < over p s j → p (bt (s ++ w) (i : Int)) = true := fun i a b => by
    rw [bt_app1 (by omega)]; exact over_in p s _ _ i a b
  constructor
  · intro h
    refine over_unique hl.1 (by omega) hin fun _ => ?_
    rw [bt_app1 h]
    exact over_out p s _ _ (by show over p s j < _; omega)
  · intro h
    have hl2 := over_le (p := p) (s := s ++ w) (j := s.size) (by omega)
    refine over_unique (by omega) hl2.2 (fun i a b => ?_) fun hlt => over_out p (s ++ w) _ _ (by show over p (s ++ w) s.size < _; omega)
    by_cases hi : i < s.size
    · exact hin i a (by omega)
    · exact over_in p (s ++ w) _ _ i (by omega) b
theorem over_app_stop {p : Int → Bool} {s w : ByteArray} {j : Nat} (hj : j ≤ s.size) (hw : p (bt w 0) = false) : over p (s ++ w) j = over p s j := by
  have h := over_app (p := p) (w := w) hj
  have hl := over_le (p := p) (s := s) (j := j) hj
  by_cases hlt : over p s j < s.size
  · exact h.1 hlt
  · have he : over p s j = s.size := by omega
    rw [h.2 he, he]
    refine over_stop ?_
    have := bt_app2 (s := s) (t := w) (k := 0)
    rw [Nat.add_zero] at this
    rw [this]; exact hw
theorem over_shift {p : Int → Bool} {u b : ByteArray} {j : Nat} (hj : j ≤ b.size) : over p (u ++ b) (u.size + j) = u.size + over p b j := by
  have hl := over_le (p := p) (s := b) (j := j) hj
  have hsz := app_size u b
  refine over_unique (by omega) (by omega) (fun i h1 h2 => ?_) fun h => ?_
  · obtain ⟨q, rfl⟩ : ∃ q, i = u.size + q := ⟨i - u.size, by omega⟩
    rw [bt_app2]; exact over_in p b (b.size - j) j q (by omega) (by show q < over p b j; omega)
  · rw [bt_app2]; exact over_out p b _ _ (by show over p b j < _; omega)
theorem numS_congr {s t : ByteArray} {a a' e e' : Nat} (he : e' - a' = e - a) (hae : a < e) (hae' : a' < e') (h : ∀ i, i < e - a → bt s ((a + i : Nat) : Int) = bt t ((a' + i : Nat) : Int)) : numS s a e = numS t a' e' := by
  unfold numS
  have h0 := h 0 (by omega)
  rw [Nat.add_zero, Nat.add_zero] at h0
  have c0 : numF s (e - a) a 0 = numF t (e' - a') a' 0 := by rw [he]; exact numF_congr _ h
  have d1 : decide (e ≤ a + 1) = decide (e' ≤ a' + 1) := decide_eq_decide.2 (by omega)
  have d2 : decide (e > a + 1) = decide (e' > a' + 1) := decide_eq_decide.2 (by omega)
  rw [h0, c0, d1, d2]
  by_cases hle : e' ≤ a' + 1
  · simp only [hle, decide_true, cond_true]
  · have h1 := h 1 (by omega)
    have c1 : numF s (e - (a + 1)) (a + 1) 0 = numF t (e' - (a' + 1)) (a' + 1) 0 := by
      rw [show e' - (a' + 1) = e - (a + 1) from by omega]
      exact numF_congr _ fun i hi => by
        have := h (i + 1) (by omega)
        rw [show a + 1 + i = a + (i + 1) from by omega, show a' + 1 + i = a' + (i + 1) from by omega]; exact this
    rw [h1, c1]
/-- What stands behind a text does not reach into its tokens. -/
structure Behind (w : ByteArray) : Prop where
  pos : 0 < w.size
  inner : isInner (bt w 0) = false
  minus : (bt w 0 == 45) = false
  quote : (isPlain (bt w 0) = false ∧ (bt w 0 == 34) = false) ∨ ∀ k, k < w.size → (bt w (k : Int) == 34) = false
theorem digit_inner {c : Int} (h : isInner c = false) : isDigit c = false := by
  unfold isInner at h
  simp only [Bool.or_eq_false_iff] at h
  exact h.2.2.1
theorem oneS_app {s w : ByteArray} (hw : Behind w) {j : Nat} (hj : j < s.size) : oneS (s ++ w) j = oneS s j := by
  unfold oneS
  have hsz := app_size s w
  have li := over_le (p := isInner) (s := s) (j := j) (by omega)
  have ld := over_le (p := isDigit) (s := s) (j := j + 1) (by omega)
  have lp := over_le (p := isPlain) (s := s) (j := j + 1) (by omega)
  have hpos := hw.pos
  rw [bt_app1 hj, over_app_stop (p := isInner) (by omega) hw.inner, over_app_stop (p := isDigit) (j := j + 1) (by omega) (digit_inner hw.inner), ext_app li.2,
    numS_congr (s := s ++ w) (t := s) (a := j) (a' := j) (e := over isDigit s (j + 1)) (e' := over isDigit s (j + 1)) rfl (by omega) (by omega) (fun i hi => bt_app1 (by omega)),
    ext_app (a := j) (b := j + 1) (by omega)]
  have q : (decide (over isPlain (s ++ w) (j + 1) < (s ++ w).size) && bt (s ++ w) ((over isPlain (s ++ w) (j + 1) : Nat) : Int) == 34) = (decide (over isPlain s (j + 1) < s.size) && bt s ((over isPlain s (j + 1) : Nat) : Int) == 34) ∧
      (over isPlain s (j + 1) < s.size → over isPlain (s ++ w) (j + 1) = over isPlain s (j + 1)) := by
    have ho := over_app (p := isPlain) (s := s) (w := w) (j := j + 1) (by omega)
    by_cases hlt : over isPlain s (j + 1) < s.size
    · rw [ho.1 hlt, bt_app1 hlt]
      have h1 : over isPlain s (j + 1) < (s ++ w).size := by omega
      exact ⟨by simp only [h1, hlt, decide_true], fun _ => rfl⟩
    · refine ⟨?_, fun h => absurd h hlt⟩
      have he : over isPlain s (j + 1) = s.size := by omega
      rw [ho.2 he]
      simp only [hlt, decide_false, Bool.false_and]
      rcases hw.quote with hq | hq
      · have : over isPlain (s ++ w) s.size = s.size := by
          refine over_stop ?_
          have := bt_app2 (s := s) (t := w) (k := 0)
          rw [Nat.add_zero] at this
          rw [this]; exact hq.1
        rw [this]
        have := bt_app2 (s := s) (t := w) (k := 0)
        rw [Nat.add_zero] at this
        rw [this, show ((0 : Nat) : Int) = 0 from rfl, hq.2, Bool.and_false]
      · have hl2 := over_le (p := isPlain) (s := s ++ w) (j := s.size) (by omega)
        by_cases h2 : over isPlain (s ++ w) s.size < (s ++ w).size
        · obtain ⟨k, hk⟩ : ∃ k, over isPlain (s ++ w) s.size = s.size + k := ⟨over isPlain (s ++ w) s.size - s.size, by omega⟩
          rw [hk, bt_app2, hq k (by omega), Bool.and_false]
        · simp only [h2, decide_false, Bool.false_and]
  have m : (decide (j + 1 < (s ++ w).size) && bt (s ++ w) ((j + 1 : Nat) : Int) == 45) = (decide (j + 1 < s.size) && bt s ((j + 1 : Nat) : Int) == 45) ∧ (j + 1 < s.size → (s ++ w).extract j (j + 2) = s.extract j (j + 2)) := by
    by_cases hlt : j + 1 < s.size
    · rw [bt_app1 hlt]
      have h1 : j + 1 < (s ++ w).size := by omega
      exact ⟨by simp only [h1, hlt, decide_true], fun _ => ext_app (by omega)⟩
    · refine ⟨?_, fun h => absurd h hlt⟩
      have : j + 1 = s.size + 0 := by omega
      simp only [hlt, decide_false, Bool.false_and]
      rw [this, bt_app2, show ((0 : Nat) : Int) = 0 from rfl, hw.minus, Bool.and_false]
  rw [q.1, m.1]
  cases isSmall (bt s (j : Int)) with
  | true => rfl
  | false =>
  cases isGreat (bt s (j : Int)) with
  | true => rfl
  | false =>
  cases (isDigit (bt s (j : Int)) || bt s (j : Int) == 45) with
  | true => simp only [cond_true, cond_false]
  | false =>
  simp only [cond_false]
  cases bt s (j : Int) == 34 with
  | true =>
    simp only [cond_true]
    by_cases hlt : over isPlain s (j + 1) < s.size
    · rw [q.2 hlt, ext_app (by omega)]
    · simp only [hlt, decide_false, Bool.false_and, cond_false]
  | false =>
  simp only [cond_false]
  by_cases hlt : j + 1 < s.size
  · rw [m.2 hlt]
  · simp only [hlt, decide_false, Bool.false_and, Bool.and_false, cond_false]
theorem skipF_succ (s : ByteArray) (k : Nat) (note : Bool) (j : Nat) : skipF s (k + 1) note j = bif bt s (j : Int) == 37 then skipF s k true (j + 1)
    else bif bt s (j : Int) == 10 then skipF s k false (j + 1)
    else bif !note && !isBlank (bt s (j : Int)) then j
    else skipF s k note (j + 1) := rfl
theorem skipF_app {s w : ByteArray} : ∀ k b j, j + k = s.size → ∃ b', skipF (s ++ w) (k + w.size) b j = if skipF s k b j < s.size then skipF s k b j else s.size + skipF w w.size b' 0
  | 0, b, j, hj => by
    refine ⟨b, ?_⟩
    have hj' : j = s.size := by omega
    subst hj'
    simp only [skipF, Nat.lt_irrefl, if_false, Nat.zero_add]
    have gen : ∀ k b i, skipF (s ++ w) k b (s.size + i) = s.size + skipF w k b i := by
      intro k
      induction k with
      | zero => intro b i; rfl
      | succ k ih =>
        intro b i
        unfold skipF
        rw [bt_app2, show s.size + i + 1 = s.size + (i + 1) from by omega, ih, ih, ih]
        cases bt w (i : Int) == 37 <;> cases bt w (i : Int) == 10 <;> cases (!b && !isBlank (bt w (i : Int))) <;> rfl
    exact gen w.size b 0
  | k + 1, b, j, hj => by
    rw [show k + 1 + w.size = (k + w.size) + 1 from by omega, skipF_succ, skipF_succ, bt_app1 (show j < s.size by omega)]
    cases bt s (j : Int) == 37 with
    | true => simp only [cond_true]; exact skipF_app (s := s) (w := w) k true (j + 1) (by omega)
    | false =>
    simp only [cond_false]
    cases bt s (j : Int) == 10 with
    | true => simp only [cond_true]; exact skipF_app (s := s) (w := w) k false (j + 1) (by omega)
    | false =>
    simp only [cond_false]
    cases (!b && !isBlank (bt s (j : Int))) with
    | true => refine ⟨b, ?_⟩; simp only [cond_true]; rw [if_pos (by omega)]
    | false => simp only [cond_false]; exact skipF_app (s := s) (w := w) k b (j + 1) (by omega)
theorem skipF_shift {u w : ByteArray} : ∀ k b i, skipF (u ++ w) k b (u.size + i) = u.size + skipF w k b i
  | 0, b, i => rfl
  | k + 1, b, i => by
    unfold skipF
    rw [bt_app2, show u.size + i + 1 = u.size + (i + 1) from by omega, skipF_shift k, skipF_shift k, skipF_shift k]
    cases bt w (i : Int) == 37 <;> cases bt w (i : Int) == 10 <;> cases (!b && !isBlank (bt w (i : Int))) <;> rfl
theorem skip_app {s w : ByteArray} {j : Nat} (hj : j ≤ s.size) : (skip s j < s.size → skip (s ++ w) j = skip s j) ∧ (skip s j = s.size → ∃ b, skip (s ++ w) j = s.size + skipF w w.size b 0) := by
  obtain ⟨b', h⟩ := skipF_app (s := s) (w := w) (s.size - j) false j (by omega)
  have e : s.size - j + w.size = (s ++ w).size - j := by rw [app_size]; omega
  rw [e] at h
  constructor
  · intro hlt
    have : skipF s (s.size - j) false j < s.size := hlt
    rw [if_pos this] at h
    exact h
  · intro he
    have : ¬ skipF s (s.size - j) false j < s.size := by show ¬ skip s j < s.size; omega
    rw [if_neg this] at h
    exact ⟨b', h⟩
theorem skip_shift {u w : ByteArray} {j : Nat} : skip (u ++ w) (u.size + j) = u.size + skip w j := by
  unfold skip
  rw [app_size, show u.size + w.size - (u.size + j) = w.size - j from by omega, skipF_shift]
end Go.Den
