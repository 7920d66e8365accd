import Derived.Test.YtlpnccpagikioaaDoorZ26
set_option linter.unusedVariables false
set_option linter.unusedSimpArgs false
set_option linter.unusedSectionVars false
/- LexBlanks, LexJoins. -/
namespace Go.Den
open Go.Proofs
/-- What stands behind a text is blank. -/
structure Blank (w : ByteArray) : Prop extends Behind w where
  skip : ∀ b, skipF w w.size b 0 = w.size
theorem tokF_end {s : ByteArray} : ∀ k, tokF s k s.size = .ok []
  | 0 => rfl
  | k + 1 => by unfold tokF; rw [if_neg (Nat.lt_irrefl _)]
theorem tokF_blank {s w : ByteArray} (hw : Blank w) : ∀ k j, j ≤ s.size → tokF (s ++ w) k (if j < s.size then j else (s ++ w).size) = tokF s k j
  | 0, j, hj => rfl
  | k + 1, j, hj => by
    by_cases hlt : j < s.size
    · rw [if_pos hlt]
      have h2 : j < (s ++ w).size := by rw [app_size]; omega
      unfold tokF
      rw [if_pos hlt, if_pos h2, oneS_app hw.toBehind hlt]
      cases ho : oneS s j with
      | none => rfl
      | some t =>
        obtain ⟨kd, x, v, e⟩ := t
        have he := oneS_next hlt ho
        have hsk := skip_le (s := s) (j := e) he.2
        have ih := tokF_blank hw k (skip s e) hsk.2
        have hs : skip (s ++ w) e = if skip s e < s.size then skip s e else (s ++ w).size := by
          have ha := skip_app (s := s) (w := w) he.2
          by_cases h : skip s e < s.size
          · rw [if_pos h]; exact ha.1 h
          · rw [if_neg h]
            obtain ⟨b, hb⟩ := ha.2 (by omega)
            rw [hb, hw.skip, app_size]
        simp only
        rw [hs, ih]
    · rw [if_neg hlt]
      have : j = s.size := by omega
      subst this
      rw [tokF_end, tokF_end]
theorem tokens_blank {s w : ByteArray} (hw : Blank w) : tokens (s ++ w) = tokens s := by
  have hsk := skip_le (s := s) (j := 0) (Nat.zero_le _)
  have ha := skip_app (s := s) (w := w) (Nat.zero_le s.size)
  have hs : skip (s ++ w) 0 = if skip s 0 < s.size then skip s 0 else (s ++ w).size := by
    by_cases h : skip s 0 < s.size
    · rw [if_pos h]; exact ha.1 h
    · rw [if_neg h]
      obtain ⟨b, hb⟩ := ha.2 (by omega)
      rw [hb, hw.skip, app_size]
  unfold tokens
  rw [hs, tokF_blank hw _ _ hsk.2]
  exact tokF_more s _ _ _ hsk.2 (by rw [app_size]; omega) (by omega)
theorem blank_w {w : ByteArray} (h : w = ByteArray.mk #[32] ∨ w = ByteArray.mk #[10] ∨ w = ByteArray.mk #[9, 13] ∨ w = ByteArray.mk #[10, 37, 32, 112, 40, 10]) : Blank w := by
  rcases h with rfl | rfl | rfl | rfl
  · exact { pos := by decide, inner := by decide, minus := by decide, quote := .inr (fun k hk => by match k, hk with | 0, _ => decide), skip := fun b => by cases b <;> decide }
  · exact { pos := by decide, inner := by decide, minus := by decide, quote := .inl (by decide), skip := fun b => by cases b <;> decide }
  · exact { pos := by decide, inner := by decide, minus := by decide, quote := .inl (by decide), skip := fun b => by cases b <;> decide }
  · exact { pos := by decide, inner := by decide, minus := by decide, quote := .inl (by decide), skip := fun b => by cases b <;> decide }
theorem tmod4 (j : Int) : 0 ≤ Int.tmod (IntKind.wrap IntKind.i64 (Int.tmod j 4 + 4)) 4 ∧ Int.tmod (IntKind.wrap IntKind.i64 (Int.tmod j 4 + 4)) 4 < 4 := by
  have h1 : -4 < Int.tmod j 4 ∧ Int.tmod j 4 < 4 := by
    have := Int.lt_tmod_of_pos j (show (0 : Int) < 4 by decide)
    have := Int.tmod_lt_of_pos j (show (0 : Int) < 4 by decide)
    omega
  rw [wrap_small (by omega) (by omega)]
  have h2 := Int.tmod_nonneg (4 : Int) (a := Int.tmod j 4 + 4) (by omega)
  have h3 := Int.tmod_lt_of_pos (Int.tmod j 4 + 4) (show (0 : Int) < 4 by decide)
  exact ⟨h2, h3⟩
def shiftTok (d : Nat) (r : Row) : Row := tokRow (Row.I r 0) (Row.S r 1) (Row.I r 2) ((Row.I r 3).toNat + d)
theorem oneS_shift {u b : ByteArray} {j : Nat} (hj : j < b.size) : oneS (u ++ b) (u.size + j) = (oneS b j).map fun t => (t.1, t.2.1, t.2.2.1, u.size + t.2.2.2) := by
  unfold oneS
  have hsz := app_size u b
  have ld := over_le (p := isDigit) (s := b) (j := j + 1) (by omega)
  have a1 : u.size + j + 1 = u.size + (j + 1) := by omega
  have a2 : u.size + j + 2 = u.size + (j + 2) := by omega
  have d1 : decide (u.size + over isPlain b (j + 1) < (u ++ b).size) = decide (over isPlain b (j + 1) < b.size) := decide_eq_decide.2 (by omega)
  have d2 : decide (u.size + (j + 1) < (u ++ b).size) = decide (j + 1 < b.size) := decide_eq_decide.2 (by omega)
  rw [a1, a2, over_shift (p := isInner) (by omega), over_shift (p := isDigit) (j := j + 1) (by omega), over_shift (p := isPlain) (j := j + 1) (by omega), bt_app2, bt_app2, bt_app2, d1, d2, ext_app2, ext_app2, ext_app2, ext_app2,
    numS_congr (s := u ++ b) (t := b) (a := u.size + j) (a' := j) (e := u.size + over isDigit b (j + 1)) (e' := over isDigit b (j + 1)) (by omega) (by omega) (by omega) (fun i hi => by rw [show u.size + j + i = u.size + (j + i) from by omega, bt_app2])]
  cases isSmall (bt b (j : Int)) with
  | true => rfl
  | false =>
  cases isGreat (bt b (j : Int)) with
  | true => rfl
  | false =>
  cases (isDigit (bt b (j : Int)) || bt b (j : Int) == 45) with
  | true => simp only [cond_true, cond_false]; cases numS b j (over isDigit b (j + 1)) <;> rfl
  | false =>
  simp only [cond_false]
  cases bt b (j : Int) == 34 with
  | true =>
    simp only [cond_true]
    cases (decide (over isPlain b (j + 1) < b.size) && bt b ((over isPlain b (j + 1) : Nat) : Int) == 34) <;> rfl
  | false =>
  simp only [cond_false]
  cases (bt b (j : Int) == 58 && (decide (j + 1 < b.size) && bt b ((j + 1 : Nat) : Int) == 45)) with
  | true => rfl
  | false =>
  simp only [cond_false]
  cases (bt b (j : Int) == 40 || (bt b (j : Int) == 41 || (bt b (j : Int) == 44 || (bt b (j : Int) == 46 || bt b (j : Int) == 58)))) <;> rfl
def shiftE (d : Nat) : Except (Nat × Int) Rows → Except (Nat × Int) Rows
  | .ok l => .ok (l.map (shiftTok d))
  | .error p => .error (p.1 + d, p.2)
theorem tokF_shift {u b : ByteArray} : ∀ k j, j ≤ b.size → tokF (u ++ b) k (u.size + j) = shiftE u.size (tokF b k j)
  | 0, j, hj => rfl
  | k + 1, j, hj => by
    have hsz := app_size u b
    unfold tokF
    by_cases hlt : j < b.size
    · rw [if_pos hlt, if_pos (by omega), oneS_shift hlt]
      cases ho : oneS b j with
      | none => simp only [Option.map_none, shiftE]; rw [Nat.add_comm]
      | some t =>
        obtain ⟨kd, x, v, e⟩ := t
        have he := oneS_next hlt ho
        simp only [Option.map_some]
        by_cases hx : x.size > 32
        · rw [if_pos hx, if_pos hx]; simp only [shiftE]; rw [Nat.add_comm]
        · rw [if_neg hx, if_neg hx, skip_shift, tokF_shift k (skip b e) (skip_le he.2).2]
          cases tokF b k (skip b e) with
          | ok l =>
            simp only [shiftE, List.map_cons]
            congr 2
            show _ = tokRow kd x v (((j : Int)).toNat + u.size)
            rw [Int.toNat_natCast, Nat.add_comm]
          | error p => rfl
    · rw [if_neg hlt, if_neg (by omega)]; rfl
/-- The tokens of a text, then of another one behind a line's end. -/
theorem tokF_join {a w : ByteArray} (hw : Behind w) {m : Nat} (hm : m ≤ (a ++ w).size) (hskip : ∀ b, a.size + skipF w w.size b 0 = m) : ∀ k j l, j ≤ a.size → a.size - j < k → tokF a k j = .ok l → ∀ k', k + (a ++ w).size < k' →
    tokF (a ++ w) k' (if j < a.size then j else m) = match tokF (a ++ w) ((a ++ w).size + 1) m with
      | .ok l' => .ok (l ++ l')
      | .error p => .error p
  | 0, j, l, hj, h, _, _, _ => by omega
  | k + 1, j, l, hj, hk, h, k', hk' => by
    have hsz := app_size a w
    by_cases hlt : j < a.size
    · rw [if_pos hlt]
      obtain ⟨k', rfl⟩ : ∃ z, k' = z + 1 := ⟨k' - 1, by omega⟩
      unfold tokF at h
      rw [if_pos hlt] at h
      rw [tokF, if_pos (by omega), oneS_app hw hlt]
      cases ho : oneS a j with
      | none => rw [ho] at h; cases h
      | some t =>
        obtain ⟨kd, x, v, e⟩ := t
        rw [ho] at h
        simp only at h ⊢
        by_cases hx : x.size > 32
        · rw [if_pos hx] at h; cases h
        · rw [if_neg hx] at h ⊢
          have he := oneS_next hlt ho
          have hsk := skip_le (s := a) (j := e) he.2
          cases ht : tokF a k (skip a e) with
          | error p => rw [ht] at h; cases h
          | ok l1 =>
            rw [ht] at h
            cases h
            have hs : skip (a ++ w) e = if skip a e < a.size then skip a e else m := by
              have ha := skip_app (s := a) (w := w) he.2
              by_cases h : skip a e < a.size
              · rw [if_pos h]; exact ha.1 h
              · rw [if_neg h]
                obtain ⟨b, hb⟩ := ha.2 (by omega)
                rw [hb, hskip]
            rw [hs, tokF_join hw hm hskip k (skip a e) l1 hsk.2 (by omega) ht k' (by omega)]
            cases tokF (a ++ w) ((a ++ w).size + 1) m <;> rfl
    · rw [if_neg hlt]
      have : l = [] := by
        unfold tokF at h
        rw [if_neg hlt] at h; cases h; rfl
      subst this
      rw [tokF_more (a ++ w) k' m ((a ++ w).size + 1) hm (by omega) (by omega)]
      cases tokF (a ++ w) ((a ++ w).size + 1) m <;> rfl
end Go.Den
