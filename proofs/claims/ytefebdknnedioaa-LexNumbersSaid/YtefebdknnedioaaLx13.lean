import Derived.Test.YtefebdknnedioaaLx12
set_option linter.unusedVariables false
set_option linter.unusedSimpArgs false
set_option linter.unusedSectionVars false
/- LexNumbers: the law. -/
namespace Go.Den
open Go.Proofs
theorem num_first {n : Nat} {j0 : Int} {u : Nat} {i : Nat} : law07_LexNumbers_l6 n j0 (i + 1) (u : Int) (ofD []) 0 = if u < 18446744073709551616 then law07_LexNumbers_l6 n j0 i ((u / 10 : Nat) : Int) (ofD [u % 10]) ((1 : Nat) : Int) else law07_LexNumbers_l6 n j0 (i + 1) (u : Int) (ofD []) 0 := by
  by_cases hu : u < 18446744073709551616
  · rw [if_pos hu, law07_LexNumbers_s6]
    have hsz : (ofD [u % 10]).size + (ofD []).size < 4611686018427387904 := by rw [ofD_size, ofD_size]; simp
    have e1 : IntKind.wrap IntKind.u64 (Int.tdiv (u : Int) 10) = ((u / 10 : Nat) : Int) := by
      have e : Int.tdiv (u : Int) 10 = ((u / 10 : Nat) : Int) := rfl
      rw [e, wrap_u64 (by omega) (by omega)]
    have e2 : IntKind.wrap IntKind.i64 ((0 : Int) + 1) = ((1 : Nat) : Int) := wrap_succ (j := 0) (by unfold big; omega)
    have g1 : (0 : Int) < 20 := by omega
    simp only [digit_byte, g1, decide_true, cond_true, hsz, if_true, e1, e2, ofD_cons, beq_self_eq_true]
    cases decide ((u : Int) > 0) <;> rfl
  · rw [if_neg hu]
/-- What stands at the end. -/
theorem num_end {n : Nat} {j0 : Int} (hn : 5000 < n) {l : List Nat} (hd : ∀ d ∈ l, d < 10) (h0 : 0 < l.length) (h20 : l.length ≤ 21) (hz : 1 < l.length → ∀ h : 0 < l.length, l[0] ≠ 0) (hv : valFrom 0 l ≤ 9223372036854775808)
    (hj : j0 < 0 ∧ (∀ h : 0 < l.length, l[0] ≠ 0) ∧ j0 = -(valFrom 0 l : Int) ∨ ¬ j0 < 0 ∧ valFrom 0 l < 9223372036854775808 ∧ j0 = (valFrom 0 l : Int)) {i k : Nat} (hk : 0 < k) :
    law07_LexNumbers_l6 n j0 (i + 1) 0 (ofD l) (k : Int) = some (true, ()) := by
  rw [law07_LexNumbers_s6]
  have hs := ofD_size l
  have g0 : ¬ (0 : Int) > 0 := by omega
  have gk : ((k : Int) == 0) = false := by
    have : ¬ (k : Int) = 0 := by omega
    simpa using this
  have s1 : 1 + (ofD l).size < 4611686018427387904 := by omega
  have s2 : 1 + (ByteArray.mk #[48] ++ ofD l).size < 4611686018427387904 := by rw [size_head]; omega
  have z1 := tokens_zero hd h0 h20
  have z2 := tokens_mzero hd h0 h20
  simp only [g0, gk, s1, s2, decide_false, cond_false, if_true, lex_Tokens_q hn, live_at (n := n) (by omega), z1, z2, obind_some, tokRes]
  rcases hj with ⟨hneg, hnz, hj⟩ | ⟨hpos, hlt, hj⟩
  · have tm := tokens_minus hd h0 h20 hz hv hnz
    rw [← hj] at tm
    simp only [hneg, decide_true, cond_true, tm, obind_some, tokRes, List.nil_append]
    have r0 : Row.I (([tokRow 3 (ByteArray.mk #[]) j0 0] : Rows).getD 0 []) 0 = 3 := rfl
    have r1 : Row.S (([tokRow 3 (ByteArray.mk #[]) j0 0] : Rows).getD 0 []) 1 = ByteArray.mk #[] := rfl
    have r2 : Row.I (([tokRow 3 (ByteArray.mk #[]) j0 0] : Rows).getD 0 []) 2 = j0 := rfl
    simp only [r0, r1, r2, beq_self_eq_true, cond_true, List.length_cons, List.length_nil]
    cases decide ((k : Int) < 20) <;> rfl
  · have tp := tokens_plain hd h0 h20 hz hv hlt
    rw [← hj] at tp
    simp only [hpos, decide_false, cond_false, tp, obind_some, tokRes, List.nil_append]
    have r0 : Row.I (([tokRow 3 (ByteArray.mk #[]) j0 0] : Rows).getD 0 []) 0 = 3 := rfl
    have r1 : Row.S (([tokRow 3 (ByteArray.mk #[]) j0 0] : Rows).getD 0 []) 1 = ByteArray.mk #[] := rfl
    have r2 : Row.I (([tokRow 3 (ByteArray.mk #[]) j0 0] : Rows).getD 0 []) 2 = j0 := rfl
    simp only [r0, r1, r2, beq_self_eq_true, cond_true, List.length_cons, List.length_nil]
    cases decide ((k : Int) < 20) <;> rfl
theorem num_all {n : Nat} {j0 : Int} (hn : 5000 < n) {u : Nat} (hu : u ≤ 9223372036854775808) (hj : j0 < 0 ∧ 0 < u ∧ j0 = -(u : Int) ∨ ¬ j0 < 0 ∧ u < 9223372036854775808 ∧ j0 = (u : Int)) :
    law07_LexNumbers_l6 n j0 n (u : Int) (ofD []) 0 = some (true, ()) := by
  obtain ⟨i, rfl⟩ : ∃ z, n = z + 1 := ⟨n - 1, by omega⟩
  rw [num_first, if_pos (by omega)]
  have p19 : (10 : Nat) ^ 19 = 10000000000000000000 := by decide
  obtain ⟨i', k', h1, h2, h3⟩ := num_loop (n := i + 1) (j0 := j0) 19 (u / 10) [u % 10] 1 (by omega) (by omega) (by simp) (by rw [p19]; omega) i (by omega)
  rw [h3]
  have hval : valFrom 0 (decL 19 (u / 10) [u % 10]) = u := by
    rw [decL_val 19 _ _ (by rw [p19]; omega)]
    show 10 * (u / 10) + u % 10 = u
    omega
  have hdig := decL_dig 19 (u / 10) [u % 10] (fun d hd => by rcases List.mem_singleton.1 hd with rfl; omega)
  have hlen := decL_len 19 (u / 10) [u % 10]
  simp only [List.length_cons, List.length_nil] at hlen
  have hnz : 0 < u / 10 → ∀ h : 0 < (decL 19 (u / 10) [u % 10]).length, (decL 19 (u / 10) [u % 10])[0] ≠ 0 := by
    intro hp h
    obtain ⟨d, r, he, hd0⟩ := decL_head 19 (u / 10) [u % 10] hp (by rw [p19]; omega)
    simp only [he, List.getElem_cons_zero]
    exact hd0
  have hone : u / 10 = 0 → decL 19 (u / 10) [u % 10] = [u % 10] := by
    intro h; rw [h]; rfl
  refine num_end hn hdig (by omega) (by omega) (fun hl => ?_) (by rw [hval]; exact hu) ?_ h1
  · refine hnz ?_
    rcases Nat.eq_zero_or_pos (u / 10) with h | h
    · rw [hone h] at hl; simp at hl
    · exact h
  · rw [hval]
    rcases hj with ⟨a, b, c⟩ | ⟨a, b, c⟩
    · refine .inl ⟨a, ?_, c⟩
      rcases Nat.eq_zero_or_pos (u / 10) with h | h
      · simp only [hone h, List.getElem_cons_zero]
        intro _; omega
      · exact hnz h
    · exact .inr ⟨a, b, c⟩
theorem law07_LexNumbers_pure (j0 : Int) (h : (Lit.int .i64 j0).wf = true) : ∃ n, law07_LexNumbers_v n j0 = some (true, ()) := by
  obtain ⟨h1, h2⟩ := lit_i64 h
  refine ⟨6000, ?_⟩
  rw [law07_LexNumbers_e]
  have he : (ByteArray.mk #[]) = ofD [] := rfl
  rw [he]
  by_cases hneg : j0 < 0
  · simp only [hneg, decide_true, cond_true]
    have e1 : IntKind.wrap IntKind.u64 (0 - IntKind.wrap IntKind.u64 j0) = (((-j0).toNat : Nat) : Int) := by
      rw [wrap_u64n (z := j0) (by omega) hneg, wrap_u64n (z := 0 - (j0 + 18446744073709551616)) (by omega) (by omega)]
      omega
    rw [e1]
    exact num_all (by omega) (by omega) (.inl ⟨hneg, by omega, by omega⟩)
  · simp only [hneg, decide_false, cond_false]
    have e1 : IntKind.wrap IntKind.u64 j0 = ((j0.toNat : Nat) : Int) := by
      rw [wrap_u64 (z := j0) (by omega) (by omega)]; omega
    rw [e1]
    exact num_all (by omega) (by omega) (.inr ⟨hneg, by omega, by omega⟩)
end Go.Den
