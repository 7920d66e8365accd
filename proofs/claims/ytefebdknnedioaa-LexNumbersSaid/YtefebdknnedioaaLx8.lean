import Derived.Test.YtefebdknnedioaaLx7
set_option linter.unusedVariables false
set_option linter.unusedSimpArgs false
set_option linter.unusedSectionVars false
/- LexCovers. -/
namespace Go.Den
open Go.Proofs
theorem getD_mid {pre l : Rows} {r : Row} {j : Nat} (hj : j = pre.length) : (pre ++ r :: l).getD j [] = r := by
  subst hj
  rw [List.getD_eq_getElem?_getD, List.getElem?_append_right (Nat.le_refl _), Nat.sub_self]
  rfl
theorem covers_loop {n : Nat} {s : ByteArray} (hs : s.size ≤ 4096) (hn : 5000 < n) (nl : Bool) : ∀ k e0 l, e0 ≤ s.size → s.size - skip s e0 < k → tokF s k (skip s e0) = .ok l → ∀ (pre : Rows) (i : Nat), pre.length + l.length ≤ 5000 → l.length < i →
    law07_LexCovers_l6 n s i nl (pre ++ l) (e0 : Int) (pre.length : Int) = some (true, ()) := by
  have hb : s.size < big := by unfold big; omega
  intro k
  induction k with
  | zero => intro e0 l _ h; omega
  | succ k ih =>
    intro e0 l he0 hk h pre i hp hi
    obtain ⟨i, rfl⟩ : ∃ z, i = z + 1 := ⟨i - 1, by omega⟩
    have hsk := skip_le (s := s) (j := e0) he0
    rw [law07_LexCovers_s6]
    unfold tokF at h
    by_cases hlt : skip s e0 < s.size
    · rw [if_pos hlt] at h
      cases ho : oneS s (skip s e0) with
      | none => rw [ho] at h; cases h
      | some t =>
        obtain ⟨kd, x, v, e⟩ := t
        rw [ho] at h
        simp only at h
        by_cases hx : x.size > 32
        · rw [if_pos hx] at h; cases h
        · rw [if_neg hx] at h
          cases ht : tokF s k (skip s e) with
          | error p => rw [ht] at h; cases h
          | ok l' =>
            rw [ht] at h
            cases h
            have he := oneS_next hlt ho
            have hske := skip_le (s := s) (j := e) he.2
            have h1 : (pre.length : Int) < ((pre ++ tokRow kd x v (skip s e0) :: l').length : Int) := by simp; omega
            have h0 : (0 : Int) ≤ (pre.length : Int) := by omega
            simp only [List.length_cons] at hp hi
            rw [wrap_succ (j := pre.length) (by unfold big; omega)]
            simp only [h1, h0, decide_true, cond_true, if_true, Int.toNat_natCast, getD_mid (j := pre.length) rfl]
            have r0 : Row.I (tokRow kd x v (skip s e0)) 0 = kd := rfl
            have r1 : Row.S (tokRow kd x v (skip s e0)) 1 = x := rfl
            have r2 : Row.I (tokRow kd x v (skip s e0)) 2 = v := rfl
            have r3 : Row.I (tokRow kd x v (skip s e0)) 3 = ((skip s e0 : Nat) : Int) := rfl
            have g1 : ¬ ((skip s e0 : Nat) : Int) < (e0 : Int) := by omega
            have g2 : ¬ ((skip s e0 : Nat) : Int) ≥ (s.size : Int) := by omega
            have g3 : ¬ (e : Int) ≤ ((skip s e0 : Nat) : Int) := by omega
            simp only [r0, r1, r2, r3, g1, g2, decide_false, cond_false, ref_skip_q hb (n := n) (j := e0) (by omega) he0, obind_some, bne_self_eq_false, ref_one_q hb (n := n) (by omega) hlt, ho, oneAns, beq_self_eq_true, Bool.and_self, Bool.not_true, g3]
            have := ih e l' he.2 (by omega) ht (pre ++ [tokRow kd x v (skip s e0)]) i (by simp; omega) (by omega)
            simp only [List.append_assoc, List.singleton_append, List.length_append, List.length_cons, List.length_nil, Nat.zero_add] at this
            exact this
    · rw [if_neg hlt] at h
      cases h
      have h1 : ¬ (pre.length : Int) < ((pre ++ []).length : Int) := by simp
      have : skip s e0 = s.size := by omega
      simp only [h1, decide_false, cond_false, ref_skip_q hb (n := n) (j := e0) (by omega) he0, obind_some, this, beq_self_eq_true, cond_true, live_at (n := n) (by omega)]
theorem tokF_err {s : ByteArray} : ∀ k j p, j ≤ s.size → tokF s k j = .error p → p.1 ≤ s.size ∧ p.2 ≠ 0
  | 0, j, p, _, h => by cases h
  | k + 1, j, p, hj, h => by
    unfold tokF at h
    by_cases hlt : j < s.size
    · rw [if_pos hlt] at h
      cases ho : oneS s j with
      | none => rw [ho] at h; cases h; exact ⟨hj, by show (70 : Int) ≠ 0; decide⟩
      | some t =>
        obtain ⟨kd, x, v, e⟩ := t
        rw [ho] at h
        simp only at h
        by_cases hx : x.size > 32
        · rw [if_pos hx] at h; cases h; exact ⟨hj, by show (71 : Int) ≠ 0; decide⟩
        · rw [if_neg hx] at h
          have he := oneS_next hlt ho
          cases ht : tokF s k (skip s e) with
          | ok l' => rw [ht] at h; cases h
          | error q => rw [ht] at h; cases h; exact tokF_err k _ _ (skip_le he.2).2 ht
    · rw [if_neg hlt] at h; cases h
theorem tokensE_err {s : ByteArray} {p : Nat × Int} (h : tokensE s = .error p) : p.1 ≤ s.size ∧ p.2 ≠ 0 := by
  unfold tokensE at h
  split at h
  · cases h; exact ⟨Nat.zero_le _, by decide⟩
  · exact tokF_err _ _ _ (skip_le (Nat.zero_le _)).2 h
theorem law07_LexCovers_pure (s0 : ByteArray) (_h : s0.size ≤ reachBytes) : ∃ n, law07_LexCovers_v n s0 = some (true, ()) := by
  refine ⟨6000, ?_⟩
  rw [law07_LexCovers_e]
  simp only [lex_Tokens_q (n := 6000) (s := s0) (by omega), live_at (n := 6000) (by omega), obind_some]
  cases h : tokensE s0 with
  | ok l =>
    have hl := tokensE_len h
    simp only [tokRes, obind_some, List.nil_append, bne_self_eq_false, cond_false]
    unfold tokensE at h
    rw [if_neg (by omega)] at h
    have hsk := skip_le (s := s0) (j := 0) (Nat.zero_le _)
    have := covers_loop (n := 6000) hl.1 (by omega) (true && l.isEmpty) (s0.size + 1) 0 l (Nat.zero_le _) (by omega) h [] 6000 (by simp; omega) (by omega)
    exact this
  | error p =>
    have hp := tokensE_err h
    have h1 : (p.1 : Int) ≥ 0 := by omega
    have h2 : (p.1 : Int) ≤ (s0.size : Int) := by omega
    have h3 : (p.2 != 0) = true := by simpa using hp.2
    simp only [tokRes, obind_some, h1, h2, h3, decide_true, cond_true, List.length_nil]
    rfl
end Go.Den
