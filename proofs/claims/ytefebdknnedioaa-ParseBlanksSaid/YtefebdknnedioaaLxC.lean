import Derived.Test.YtefebdknnedioaaLxB
set_option linter.unusedVariables false
set_option linter.unusedSimpArgs false
set_option linter.unusedSectionVars false
/- A text with another one behind it. -/
namespace Go.Den
open Go.Proofs
theorem app_size (s w : ByteArray) : (s ++ w).size = s.size + w.size := by simp
theorem ext_app {s w : ByteArray} {a b : Nat} (h : b ≤ s.size) : (s ++ w).extract a b = s.extract a b := by
  apply ByteArray.ext
  rw [ByteArray.data_extract, ByteArray.data_extract, ByteArray.data_append]
  apply Array.ext'
  rw [Array.toList_extract, Array.toList_extract, Array.toList_append]
  simp only [List.extract_eq_take_drop]
  have hl : s.data.toList.length = s.size := by rw [Array.length_toList]; rfl
  by_cases hab : a ≤ b
  · rw [List.drop_append_of_le_length (by omega), List.take_append_of_le_length (by rw [List.length_drop]; omega)]
  · rw [show b - a = 0 from by omega]; rfl
theorem ext_app2 {u b : ByteArray} {x y : Nat} : (u ++ b).extract (u.size + x) (u.size + y) = b.extract x y := by
  apply ByteArray.ext
  rw [ByteArray.data_extract, ByteArray.data_extract, ByteArray.data_append]
  apply Array.ext'
  rw [Array.toList_extract, Array.toList_extract, Array.toList_append]
  simp only [List.extract_eq_take_drop]
  have hl : u.data.toList.length = u.size := by rw [Array.length_toList]; rfl
  rw [show u.size + y - (u.size + x) = y - x from by omega, ← hl, List.drop_append, List.drop_eq_nil_of_le (by omega)]
  simp
theorem over_app {p : Int → Bool} {s w : ByteArray} {j : Nat} (hj : j ≤ s.size) : (over p s j < s.size → over p (s ++ w) j = over p s j) ∧ (over p s j = s.size → over p (s ++ w) j = over p (s ++ w) s.size) := by
  have hl := over_le (p := p) (s := s) (j := j) hj
  have hsz := app_size s w
  have hin : ∀ i, j ≤ i → i < over p s j → p (bt (s ++ w) (i : Int)) = true := fun i a b => by
    rw [bt_app1 (by omega)]; exact over_in p s _ _ i a b
  constructor
  · intro h
    refine over_unique hl.1 (by omega) hin fun _ => ?_
    rw [bt_app1 h]
    exact over_out p s _ _ (by show over p s j < _; omega)
  · intro h
    have hl2 := over_le (p := p) (s := s ++ w) (j := s.size) (by omega)
    refine over_unique (by omega) hl2.2 (fun i a b => ?_) fun hlt => over_out p (s ++ w) _ _ (by show over p (s ++ w) s.size < _; omega)
    by_cases hi : i < s.size
    · exact hin i a (by omega)
    · exact over_in p (s ++ w) _ _ i (by omega) b
theorem over_app_stop {p : Int → Bool} {s w : ByteArray} {j : Nat} (hj : j ≤ s.size) (hw : p (bt w 0) = false) : over p (s ++ w) j = over p s j := by
  have h := over_app (p := p) (w := w) hj
  have hl := over_le (p := p) (s := s) (j := j) hj
  by_cases hlt : over p s j < s.size
  · exact h.1 hlt
  · have he : over p s j = s.size := by omega
    rw [h.2 he, he]
    refine over_stop ?_
    have := bt_app2 (s := s) (t := w) (k := 0)
    rw [Nat.add_zero] at this
    rw [this]; exact hw
theorem over_shift {p : Int → Bool} {u b : ByteArray} {j : Nat} (hj : j ≤ b.size) : over p (u ++ b) (u.size + j) = u.size + over p b j := by
  have hl := over_le (p := p) (s := b) (j := j) hj
  have hsz := app_size u b
  refine over_unique (by omega) (by omega) (fun i h1 h2 => ?_) fun h => ?_
  · obtain ⟨q, rfl⟩ : ∃ q, i = u.size + q := ⟨i - u.size, by omega⟩
    rw [bt_app2]; exact over_in p b (b.size - j) j q (by omega) (by show q < over p b j; omega)
  · rw [bt_app2]; exact over_out p b _ _ (by show over p b j < _; omega)
theorem numS_congr {s t : ByteArray} {a a' e e' : Nat} (he : e' - a' = e - a) (hae : a < e) (hae' : a' < e') (h : ∀ i, i < e - a → bt s ((a + i : Nat) : Int) = bt t ((a' + i : Nat) : Int)) : numS s a e = numS t a' e' := by
  unfold numS
  have h0 := h 0 (by omega)
  rw [Nat.add_zero, Nat.add_zero] at h0
  have c0 : numF s (e - a) a 0 = numF t (e' - a') a' 0 := by rw [he]; exact numF_congr _ h
  have d1 : decide (e ≤ a + 1) = decide (e' ≤ a' + 1) := decide_eq_decide.2 (by omega)
  have d2 : decide (e > a + 1) = decide (e' > a' + 1) := decide_eq_decide.2 (by omega)
  rw [h0, c0, d1, d2]
  by_cases hle : e' ≤ a' + 1
  · simp only [hle, decide_true, cond_true]
  · have h1 := h 1 (by omega)
    have c1 : numF s (e - (a + 1)) (a + 1) 0 = numF t (e' - (a' + 1)) (a' + 1) 0 := by
      rw [show e' - (a' + 1) = e - (a + 1) from by omega]
      exact numF_congr _ fun i hi => by
        have := h (i + 1) (by omega)
        rw [show a + 1 + i = a + (i + 1) from by omega, show a' + 1 + i = a' + (i + 1) from by omega]; exact this
    rw [h1, c1]
/-- What stands behind a text does not reach into its tokens. -/
structure Behind (w : ByteArray) : Prop where
  pos : 0 < w.size
  inner : isInner (bt w 0) = false
  minus : (bt w 0 == 45) = false
  quote : (isPlain (bt w 0) = false ∧ (bt w 0 == 34) = false) ∨ ∀ k, k < w.size → (bt w (k : Int) == 34) = false
theorem digit_inner {c : Int} (h : isInner c = false) : isDigit c = false := by
  unfold isInner at h
  simp only [Bool.or_eq_false_iff] at h
  exact h.2.2.1
theorem oneS_app {s w : ByteArray} (hw : Behind w) {j : Nat} (hj : j < s.size) : oneS (s ++ w) j = oneS s j := by
  unfold oneS
  have hsz := app_size s w
  have li := over_le (p := isInner) (s := s) (j := j) (by omega)
  have ld := over_le (p := isDigit) (s := s) (j := j + 1) (by omega)
  have lp := over_le (p := isPlain) (s := s) (j := j + 1) (by omega)
  have hpos := hw.pos
  rw [bt_app1 hj, over_app_stop (p := isInner) (by omega) hw.inner, over_app_stop (p := isDigit) (j := j + 1) (by omega) (digit_inner hw.inner), ext_app li.2,
    numS_congr (s := s ++ w) (t := s) (a := j) (a' := j) (e := over isDigit s (j + 1)) (e' := over isDigit s (j + 1)) rfl (by omega) (by omega) (fun i hi => bt_app1 (by omega)),
    ext_app (a := j) (b := j + 1) (by omega)]
  have q : (decide (over isPlain (s ++ w) (j + 1) < (s ++ w).size) && bt (s ++ w) ((over isPlain (s ++ w) (j + 1) : Nat) : Int) == 34) = (decide (over isPlain s (j + 1) < s.size) && bt s ((over isPlain s (j + 1) : Nat) : Int) == 34) ∧
      (over isPlain s (j + 1) < s.size → over isPlain (s ++ w) (j + 1) = over isPlain s (j + 1)) := by
    have ho := over_app (p := isPlain) (s := s) (w := w) (j := j + 1) (by omega)
    by_cases hlt : over isPlain s (j + 1) < s.size
    · rw [ho.1 hlt, bt_app1 hlt]
      have h1 : over isPlain s (j + 1) < (s ++ w).size := by omega
      exact ⟨by simp only [h1, hlt, decide_true], fun _ => rfl⟩
    · refine ⟨?_, fun h => absurd h hlt⟩
      have he : over isPlain s (j + 1) = s.size := by omega
      rw [ho.2 he]
      simp only [hlt, decide_false, Bool.false_and]
      rcases hw.quote with hq | hq
      · have : over isPlain (s ++ w) s.size = s.size := by
          refine over_stop ?_
          have := bt_app2 (s := s) (t := w) (k := 0)
          rw [Nat.add_zero] at this
          rw [this]; exact hq.1
        rw [this]
        have := bt_app2 (s := s) (t := w) (k := 0)
        rw [Nat.add_zero] at this
        rw [this, show ((0 : Nat) : Int) = 0 from rfl, hq.2, Bool.and_false]
      · have hl2 := over_le (p := isPlain) (s := s ++ w) (j := s.size) (by omega)
        by_cases h2 : over isPlain (s ++ w) s.size < (s ++ w).size
        · obtain ⟨k, hk⟩ : ∃ k, over isPlain (s ++ w) s.size = s.size + k := ⟨over isPlain (s ++ w) s.size - s.size, by omega⟩
          rw [hk, bt_app2, hq k (by omega), Bool.and_false]
        · simp only [h2, decide_false, Bool.false_and]
  have m : (decide (j + 1 < (s ++ w).size) && bt (s ++ w) ((j + 1 : Nat) : Int) == 45) = (decide (j + 1 < s.size) && bt s ((j + 1 : Nat) : Int) == 45) ∧ (j + 1 < s.size → (s ++ w).extract j (j + 2) = s.extract j (j + 2)) := by
    by_cases hlt : j + 1 < s.size
    · rw [bt_app1 hlt]
      have h1 : j + 1 < (s ++ w).size := by omega
      exact ⟨by simp only [h1, hlt, decide_true], fun _ => ext_app (by omega)⟩
    · refine ⟨?_, fun h => absurd h hlt⟩
      have : j + 1 = s.size + 0 := by omega
      simp only [hlt, decide_false, Bool.false_and]
      rw [this, bt_app2, show ((0 : Nat) : Int) = 0 from rfl, hw.minus, Bool.and_false]
  rw [q.1, m.1]
  cases isSmall (bt s (j : Int)) with
  | true => rfl
  | false =>
  cases isGreat (bt s (j : Int)) with
  | true => rfl
  | false =>
  cases (isDigit (bt s (j : Int)) || bt s (j : Int) == 45) with
  | true => simp only [cond_true, cond_false]
  | false =>
  simp only [cond_false]
  cases bt s (j : Int) == 34 with
  | true =>
    simp only [cond_true]
    by_cases hlt : over isPlain s (j + 1) < s.size
    · rw [q.2 hlt, ext_app (by omega)]
    · simp only [hlt, decide_false, Bool.false_and, cond_false]
  | false =>
  simp only [cond_false]
  by_cases hlt : j + 1 < s.size
  · rw [m.2 hlt]
  · simp only [hlt, decide_false, Bool.false_and, Bool.and_false, cond_false]
theorem skipF_succ (s : ByteArray) (k : Nat) (note : Bool) (j : Nat) : skipF s (k + 1) note j = bif bt s (j : Int) == 37 then skipF s k true (j + 1)
    else bif bt s (j : Int) == 10 then skipF s k false (j + 1)
    else bif !note && !isBlank (bt s (j : Int)) then j
    else skipF s k note (j + 1) := rfl
theorem skipF_app {s w : ByteArray} : ∀ k b j, j + k = s.size → ∃ b', skipF (s ++ w) (k + w.size) b j = if skipF s k b j < s.size then skipF s k b j else s.size + skipF w w.size b' 0
  | 0, b, j, hj => by
    refine ⟨b, ?_⟩
    have hj' : j = s.size := by omega
    subst hj'
    simp only [skipF, Nat.lt_irrefl, if_false, Nat.zero_add]
    have gen : ∀ k b i, skipF (s ++ w) k b (s.size + i) = s.size + skipF w k b i := by
      intro k
      induction k with
      | zero => intro b i; rfl
      | succ k ih =>
        intro b i
        unfold skipF
        rw [bt_app2, show s.size + i + 1 = s.size + (i + 1) from by omega, ih, ih, ih]
        cases bt w (i : Int) == 37 <;> cases bt w (i : Int) == 10 <;> cases (!b && !isBlank (bt w (i : Int))) <;> rfl
    exact gen w.size b 0
  | k + 1, b, j, hj => by
    rw [show k + 1 + w.size = (k + w.size) + 1 from by omega, skipF_succ, skipF_succ, bt_app1 (show j < s.size by omega)]
    cases bt s (j : Int) == 37 with
    | true => simp only [cond_true]; exact skipF_app (s := s) (w := w) k true (j + 1) (by omega)
    | false =>
    simp only [cond_false]
    cases bt s (j : Int) == 10 with
    | true => simp only [cond_true]; exact skipF_app (s := s) (w := w) k false (j + 1) (by omega)
    | false =>
    simp only [cond_false]
    cases (!b && !isBlank (bt s (j : Int))) with
    | true => refine ⟨b, ?_⟩; simp only [cond_true]; rw [if_pos (by omega)]
    | false => simp only [cond_false]; exact skipF_app (s := s) (w := w) k b (j + 1) (by omega)
theorem skipF_shift {u w : ByteArray} : ∀ k b i, skipF (u ++ w) k b (u.size + i) = u.size + skipF w k b i
  | 0, b, i => rfl
  | k + 1, b, i => by
    unfold skipF
    rw [bt_app2, show u.size + i + 1 = u.size + (i + 1) from by omega, skipF_shift k, skipF_shift k, skipF_shift k]
    cases bt w (i : Int) == 37 <;> cases bt w (i : Int) == 10 <;> cases (!b && !isBlank (bt w (i : Int))) <;> rfl
theorem skip_app {s w : ByteArray} {j : Nat} (hj : j ≤ s.size) : (skip s j < s.size → skip (s ++ w) j = skip s j) ∧ (skip s j = s.size → ∃ b, skip (s ++ w) j = s.size + skipF w w.size b 0) := by
  obtain ⟨b', h⟩ := skipF_app (s := s) (w := w) (s.size - j) false j (by omega)
  have e : s.size - j + w.size = (s ++ w).size - j := by rw [app_size]; omega
  rw [e] at h
  constructor
  · intro hlt
    have : skipF s (s.size - j) false j < s.size := hlt
    rw [if_pos this] at h
    exact h
  · intro he
    have : ¬ skipF s (s.size - j) false j < s.size := by show ¬ skip s j < s.size; omega
    rw [if_neg this] at h
    exact ⟨b', h⟩
theorem skip_shift {u w : ByteArray} {j : Nat} : skip (u ++ w) (u.size + j) = u.size + skip w j := by
  unfold skip
  rw [app_size, show u.size + w.size - (u.size + j) = w.size - j from by omega, skipF_shift]
end Go.Den
/- LexBlanks, LexJoins. -/
namespace Go.Den
open Go.Proofs
/-- What stands behind a text is blank. -/
structure Blank (w : ByteArray) : Prop extends Behind w where
  skip : ∀ b, skipF w w.size b 0 = w.size
theorem tokF_end {s : ByteArray} : ∀ k, tokF s k s.size = .ok []
  | 0 => rfl
  | k + 1 => by unfold tokF; rw [if_neg (Nat.lt_irrefl _)]
theorem tokF_blank {s w : ByteArray} (hw : Blank w) : ∀ k j, j ≤ s.size → tokF (s ++ w) k (if j < s.size then j else (s ++ w).size) = tokF s k j
  | 0, j, hj => rfl
  | k + 1, j, hj => by
    by_cases hlt : j < s.size
    · rw [if_pos hlt]
      have h2 : j < (s ++ w).size := by rw [app_size]; omega
      unfold tokF
      rw [if_pos hlt, if_pos h2, oneS_app hw.toBehind hlt]
      cases ho : oneS s j with
      | none => rfl
      | some t =>
        obtain ⟨kd, x, v, e⟩ := t
        have he := oneS_next hlt ho
        have hsk := skip_le (s := s) (j := e) he.2
        have ih := tokF_blank hw k (skip s e) hsk.2
        have hs : skip (s ++ w) e = if skip s e < s.size then skip s e else (s ++ w).size := by
          have ha := skip_app (s := s) (w := w) he.2
          by_cases h : skip s e < s.size
          · rw [if_pos h]; exact ha.1 h
          · rw [if_neg h]
            obtain ⟨b, hb⟩ := ha.2 (by omega)
            rw [hb, hw.skip, app_size]
        simp only
        rw [hs, ih]
    · rw [if_neg hlt]
      have : j = s.size := by omega
      subst this
      rw [tokF_end, tokF_end]
theorem tokens_blank {s w : ByteArray} (hw : Blank w) : tokens (s ++ w) = tokens s := by
  have hsk := skip_le (s := s) (j := 0) (Nat.zero_le _)
  have ha := skip_app (s := s) (w := w) (Nat.zero_le s.size)
  have hs : skip (s ++ w) 0 = if skip s 0 < s.size then skip s 0 else (s ++ w).size := by
    by_cases h : skip s 0 < s.size
    · rw [if_pos h]; exact ha.1 h
    · rw [if_neg h]
      obtain ⟨b, hb⟩ := ha.2 (by omega)
      rw [hb, hw.skip, app_size]
  unfold tokens
  rw [hs, tokF_blank hw _ _ hsk.2]
  exact tokF_more s _ _ _ hsk.2 (by rw [app_size]; omega) (by omega)
theorem blank_w {w : ByteArray} (h : w = ByteArray.mk #[32] ∨ w = ByteArray.mk #[10] ∨ w = ByteArray.mk #[9, 13] ∨ w = ByteArray.mk #[10, 37, 32, 112, 40, 10]) : Blank w := by
  rcases h with rfl | rfl | rfl | rfl
  · exact { pos := by decide, inner := by decide, minus := by decide, quote := .inr (fun k hk => by match k, hk with | 0, _ => decide), skip := fun b => by cases b <;> decide }
  · exact { pos := by decide, inner := by decide, minus := by decide, quote := .inl (by decide), skip := fun b => by cases b <;> decide }
  · exact { pos := by decide, inner := by decide, minus := by decide, quote := .inl (by decide), skip := fun b => by cases b <;> decide }
  · exact { pos := by decide, inner := by decide, minus := by decide, quote := .inl (by decide), skip := fun b => by cases b <;> decide }
theorem tmod4 (j : Int) : 0 ≤ Int.tmod (IntKind.wrap IntKind.i64 (Int.tmod j 4 + 4)) 4 ∧ Int.tmod (IntKind.wrap IntKind.i64 (Int.tmod j 4 + 4)) 4 < 4 := by
  have h1 : -4 < Int.tmod j 4 ∧ Int.tmod j 4 < 4 := by
    have := Int.lt_tmod_of_pos j (show (0 : Int) < 4 by decide)
    have := Int.tmod_lt_of_pos j (show (0 : Int) < 4 by decide)
    omega
  rw [wrap_small (by omega) (by omega)]
  have h2 := Int.tmod_nonneg (4 : Int) (a := Int.tmod j 4 + 4) (by omega)
  have h3 := Int.tmod_lt_of_pos (Int.tmod j 4 + 4) (show (0 : Int) < 4 by decide)
  exact ⟨h2, h3⟩
def shiftTok (d : Nat) (r : Row) : Row := tokRow (Row.I r 0) (Row.S r 1) (Row.I r 2) ((Row.I r 3).toNat + d)
theorem oneS_shift {u b : ByteArray} {j : Nat} (hj : j < b.size) : oneS (u ++ b) (u.size + j) = (oneS b j).map fun t => (t.1, t.2.1, t.2.2.1, u.size + t.2.2.2) := by
  unfold oneS
  have hsz := app_size u b
  have ld := over_le (p := isDigit) (s := b) (j := j + 1) (by omega)
  have a1 : u.size + j + 1 = u.size + (j + 1) := by omega
  have a2 : u.size + j + 2 = u.size + (j + 2) := by omega
  have d1 : decide (u.size + over isPlain b (j + 1) < (u ++ b).size) = decide (over isPlain b (j + 1) < b.size) := decide_eq_decide.2 (by omega)
  have d2 : decide (u.size + (j + 1) < (u ++ b).size) = decide (j + 1 < b.size) := decide_eq_decide.2 (by omega)
  rw [a1, a2, over_shift (p := isInner) (by omega), over_shift (p := isDigit) (j := j + 1) (by omega), over_shift (p := isPlain) (j := j + 1) (by omega), bt_app2, bt_app2, bt_app2, d1, d2, ext_app2, ext_app2, ext_app2, ext_app2,
    numS_congr (s := u ++ b) (t := b) (a := u.size + j) (a' := j) (e := u.size + over isDigit b (j + 1)) (e' := over isDigit b (j + 1)) (by omega) (by omega) (by omega) (fun i hi => by rw [show u.size + j + i = u.size + (j + i) from by omega, bt_app2])]
  cases isSmall (bt b (j : Int)) with
  | true => rfl
  | false =>
  cases isGreat (bt b (j : Int)) with
  | true => rfl
  | false =>
  cases (isDigit (bt b (j : Int)) || bt b (j : Int) == 45) with
  | true => simp only [cond_true, cond_false]; cases numS b j (over isDigit b (j + 1)) <;> rfl
  | false =>
  simp only [cond_false]
  cases bt b (j : Int) == 34 with
  | true =>
    simp only [cond_true]
    cases (decide (over isPlain b (j + 1) < b.size) && bt b ((over isPlain b (j + 1) : Nat) : Int) == 34) <;> rfl
  | false =>
  simp only [cond_false]
  cases (bt b (j : Int) == 58 && (decide (j + 1 < b.size) && bt b ((j + 1 : Nat) : Int) == 45)) with
  | true => rfl
  | false =>
  simp only [cond_false]
  cases (bt b (j : Int) == 40 || (bt b (j : Int) == 41 || (bt b (j : Int) == 44 || (bt b (j : Int) == 46 || bt b (j : Int) == 58)))) <;> rfl
def shiftE (d : Nat) : Except (Nat × Int) Rows → Except (Nat × Int) Rows
  | .ok l => .ok (l.map (shiftTok d))
  | .error p => .error (p.1 + d, p.2)
theorem tokF_shift {u b : ByteArray} : ∀ k j, j ≤ b.size → tokF (u ++ b) k (u.size + j) = shiftE u.size (tokF b k j)
  | 0, j, hj => rfl
  | k + 1, j, hj => by
    have hsz := app_size u b
    unfold tokF
    by_cases hlt : j < b.size
    · rw [if_pos hlt, if_pos (by omega), oneS_shift hlt]
      cases ho : oneS b j with
      | none => simp only [Option.map_none, shiftE]; rw [Nat.add_comm]
      | some t =>
        obtain ⟨kd, x, v, e⟩ := t
        have he := oneS_next hlt ho
        simp only [Option.map_some]
        by_cases hx : x.size > 32
        · rw [if_pos hx, if_pos hx]; simp only [shiftE]; rw [Nat.add_comm]
        · rw [if_neg hx, if_neg hx, skip_shift, tokF_shift k (skip b e) (skip_le he.2).2]
          cases tokF b k (skip b e) with
          | ok l =>
            simp only [shiftE, List.map_cons]
            congr 2
            show _ = tokRow kd x v (((j : Int)).toNat + u.size)
            rw [Int.toNat_natCast, Nat.add_comm]
          | error p => rfl
    · rw [if_neg hlt, if_neg (by omega)]; rfl
/-- The tokens of a text, then of another one behind a line's end. -/
theorem tokF_join {a w : ByteArray} (hw : Behind w) {m : Nat} (hm : m ≤ (a ++ w).size) (hskip : ∀ b, a.size + skipF w w.size b 0 = m) : ∀ k j l, j ≤ a.size → a.size - j < k → tokF a k j = .ok l → ∀ k', k + (a ++ w).size < k' →
    tokF (a ++ w) k' (if j < a.size then j else m) = match tokF (a ++ w) ((a ++ w).size + 1) m with
      | .ok l' => .ok (l ++ l')
      | .error p => .error p
  | 0, j, l, hj, h, _, _, _ => by omega
  | k + 1, j, l, hj, hk, h, k', hk' => by
    have hsz := app_size a w
    by_cases hlt : j < a.size
    · rw [if_pos hlt]
      obtain ⟨k', rfl⟩ : ∃ z, k' = z + 1 := ⟨k' - 1, by omega⟩
      unfold tokF at h
      rw [if_pos hlt] at h
      rw [tokF, if_pos (by omega), oneS_app hw hlt]
      cases ho : oneS a j with
      | none => rw [ho] at h; cases h
      | some t =>
        obtain ⟨kd, x, v, e⟩ := t
        rw [ho] at h
        simp only at h ⊢
        by_cases hx : x.size > 32
        · rw [if_pos hx] at h; cases h
        · rw [if_neg hx] at h ⊢
          have he := oneS_next hlt ho
          have hsk := skip_le (s := a) (j := e) he.2
          cases ht : tokF a k (skip a e) with
          | error p => rw [ht] at h; cases h
          | ok l1 =>
            rw [ht] at h
            cases h
            have hs : skip (a ++ w) e = if skip a e < a.size then skip a e else m := by
              have ha := skip_app (s := a) (w := w) he.2
              by_cases h : skip a e < a.size
              · rw [if_pos h]; exact ha.1 h
              · rw [if_neg h]
                obtain ⟨b, hb⟩ := ha.2 (by omega)
                rw [hb, hskip]
            rw [hs, tokF_join hw hm hskip k (skip a e) l1 hsk.2 (by omega) ht k' (by omega)]
            cases tokF (a ++ w) ((a ++ w).size + 1) m <;> rfl
    · rw [if_neg hlt]
      have : l = [] := by
        unfold tokF at h
        rw [if_neg hlt] at h; cases h; rfl
      subst this
      rw [tokF_more (a ++ w) k' m ((a ++ w).size + 1) hm (by omega) (by omega)]
      cases tokF (a ++ w) ((a ++ w).size + 1) m <;> rfl
end Go.Den
/- LexJoins. -/
namespace Go.Den
open Go.Proofs
theorem tokF_fine {s : ByteArray} : ∀ k j l, tokF s k j = .ok l → ∀ r ∈ l, ∃ kd x v q, r = tokRow kd x v q ∧ q < s.size
  | 0, j, l, h, r, hr => by cases h; cases hr
  | k + 1, j, l, h, r, hr => by
    unfold tokF at h
    by_cases hlt : j < s.size
    · rw [if_pos hlt] at h
      cases ho : oneS s j with
      | none => rw [ho] at h; cases h
      | some t =>
        obtain ⟨kd, x, v, e⟩ := t
        rw [ho] at h
        simp only at h
        by_cases hx : x.size > 32
        · rw [if_pos hx] at h; cases h
        · rw [if_neg hx] at h
          cases ht : tokF s k (skip s e) with
          | error p => rw [ht] at h; cases h
          | ok l' =>
            rw [ht] at h
            cases h
            rcases List.mem_cons.1 hr with rfl | hr
            · exact ⟨kd, x, v, j, rfl, hlt⟩
            · exact tokF_fine k _ _ ht r hr
    · rw [if_neg hlt] at h; cases h; cases hr
theorem tokens_join {a b : ByteArray} {l m : Rows} (ha : tokens a = .ok l) (hb : tokens b = .ok m) : tokens (a ++ ByteArray.mk #[10] ++ b) = .ok (l ++ m.map (shiftTok (a.size + 1))) := by
  have hn : (ByteArray.mk #[10]).size = 1 := rfl
  have hu : (a ++ ByteArray.mk #[10]).size = a.size + 1 := by rw [app_size, hn]
  have hT : a ++ ByteArray.mk #[10] ++ b = a ++ (ByteArray.mk #[10] ++ b) := by
    apply ByteArray.ext; simp [ByteArray.data_append, Array.append_assoc]
  have b0 : bt (ByteArray.mk #[10] ++ b) 0 = 10 := by
    have := bt_app1 (s := ByteArray.mk #[10]) (t := b) (k := 0) (by decide)
    exact this
  have hw : Behind (ByteArray.mk #[10] ++ b) := by
    refine { pos := by rw [app_size, hn]; omega, inner := by rw [b0]; decide, minus := by rw [b0]; decide, quote := .inl (by rw [b0]; decide) }
  have hskipw : ∀ q, skipF (ByteArray.mk #[10] ++ b) (ByteArray.mk #[10] ++ b).size q 0 = 1 + skip b 0 := by
    intro q
    rw [app_size, hn, Nat.add_comm, skipF_succ]
    rw [show ((0 : Nat) : Int) = 0 from rfl, b0]
    have := skipF_shift (u := ByteArray.mk #[10]) (w := b) b.size false 0
    exact this
  have hskb := skip_le (s := b) (j := 0) (Nat.zero_le _)
  have hm : a.size + 1 + skip b 0 ≤ (a ++ (ByteArray.mk #[10] ++ b)).size := by rw [app_size, app_size, hn]; omega
  have hsz : (a ++ (ByteArray.mk #[10] ++ b)).size = a.size + (1 + b.size) := by rw [app_size, app_size, hn]
  have hska := skip_le (s := a) (j := 0) (Nat.zero_le _)
  have hs0 : skip (a ++ (ByteArray.mk #[10] ++ b)) 0 = if skip a 0 < a.size then skip a 0 else a.size + 1 + skip b 0 := by
    have hh := skip_app (s := a) (w := ByteArray.mk #[10] ++ b) (Nat.zero_le _)
    by_cases h : skip a 0 < a.size
    · rw [if_pos h]; exact hh.1 h
    · rw [if_neg h]
      obtain ⟨q, hq⟩ := hh.2 (by omega)
      rw [hq, hskipw]; omega
  have hj := tokF_join (a := a) hw hm (fun q => by rw [hskipw]; omega) (a.size + 1) (skip a 0) l hska.2 (by omega) ha (a.size + 1 + (a ++ (ByteArray.mk #[10] ++ b)).size + 1) (by omega)
  have hsh := tokF_shift (u := a ++ ByteArray.mk #[10]) (b := b) ((a ++ (ByteArray.mk #[10] ++ b)).size + 1) (skip b 0) hskb.2
  have hsk2 : skip (a ++ (ByteArray.mk #[10] ++ b)) 0 ≤ (a ++ (ByteArray.mk #[10] ++ b)).size := (skip_le (Nat.zero_le _)).2
  rw [hT]
  unfold tokens
  rw [tokF_more _ ((a ++ (ByteArray.mk #[10] ++ b)).size + 1) _ (a.size + 1 + (a ++ (ByteArray.mk #[10] ++ b)).size + 1) hsk2 (by omega) (by omega)]
  rw [hs0, hj]
  rw [hu, hT] at hsh
  rw [hsh, tokF_more b _ (skip b 0) (b.size + 1) hskb.2 (by omega) (by omega)]
  unfold tokens at hb
  rw [hb]
  rfl
theorem getD_left {l m : Rows} {j : Nat} (h : j < l.length) : (l ++ m).getD j [] = l.getD j [] := by
  rw [List.getD_eq_getElem?_getD, List.getD_eq_getElem?_getD, List.getElem?_append_left h]
theorem getD_right {l m : Rows} {j : Nat} : (l ++ m).getD (l.length + j) [] = m.getD j [] := by
  rw [List.getD_eq_getElem?_getD, List.getD_eq_getElem?_getD, List.getElem?_append_right (by omega)]
  congr 2; omega
theorem getD_map {m : Rows} {f : Row → Row} {j : Nat} (h : j < m.length) : (m.map f).getD j [] = f (m.getD j []) := by
  rw [List.getD_eq_getElem?_getD, List.getD_eq_getElem?_getD, List.getElem?_map, List.getElem?_eq_getElem h]; rfl
end Go.Den
