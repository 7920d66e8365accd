import Derived.Test.YtkgiabbndbmmbaaZ14
import Derived.Test.YtkgiabbndbmmbaaZ17
import Derived.Test.YtkgiabbndbmmbaaZ18
set_option linter.unusedVariables false
set_option linter.unusedSimpArgs false
set_option linter.unusedSectionVars false
namespace Go.Den
open Go.Proofs
theorem z39_q (n : Nat) (a b : ByteArray) : z39_v n a b = some (texts a b, ()) := by
 rw [z39_e]
 unfold texts less
 cases Op.bytesLess (ByteArray.toList a) (ByteArray.toList b) with
 |true => rfl
 |false => cases a == b <;> rfl
theorem z32_q (n : Nat) (b0 b3 : Bool) (j1 j4 : Int) (s2 s5 : ByteArray) : z32_v n b0 j1 s2 b3 j4 s5 = some (cmpC (b0, j1, s2) (b3, j4, s5), ()) := by
 rw [z32_e]
 simp only [z39_q, obind_some]
 unfold cmpC
 cases b0 <;> cases b3 <;> cases decide (j1 < j4) <;> cases decide (j1 > j4) <;> rfl
section
variable {n : Nat} {s0 s1 s2 s5 s6 s7 : ByteArray} {b3 b8 : Bool} {r4 r9 : Rows}
theorem z40_loop (hb : r4.length < big) : ∀ k q : Nat, q + k = r4.length → q ≤ r9.length → ∀ f, k < f → z40_l8 n s0 s1 s2 b3 r4 s5 s6 s7 b8 r9 f (q : Int) = some (ordA (r4.drop q) (r9.drop q), ()) := by
 intro k
 induction k with
 |zero =>
  intro q hq hq2 f hf
  obtain ⟨f, rfl⟩ : ∃ z, f = z + 1 := ⟨f - 1, by omega⟩
  rw [z40_s8, List.drop_eq_nil_of_le (by omega)]
  have h1 : ¬ ((q : Int) < (r4.length : Int)) := by omega
  simp only [h1, decide_false, cond_false]
  by_cases h2 : q < r9.length
  ·rw [List.drop_eq_getElem_cons h2]
   have h3 : (r4.length : Int) < (r9.length : Int) := by omega
   simp only [h3, decide_true, cond_true, ordA]
  ·rw [List.drop_eq_nil_of_le (by omega)]
   have h3 : ¬ (r4.length : Int) < (r9.length : Int) := by omega
   have h4 : ¬ (r4.length : Int) > (r9.length : Int) := by omega
   simp only [h3, h4, decide_false, cond_false, ordA]
 |succ k ih =>
  intro q hq hq2 f hf
  obtain ⟨f, rfl⟩ : ∃ z, f = z + 1 := ⟨f - 1, by omega⟩
  have hlt : q < r4.length := by omega
  have h1 : (q : Int) < (r4.length : Int) := by omega
  have h0 : (0 : Int) ≤ (q : Int) := by omega
  rw [z40_s8, List.drop_eq_getElem_cons hlt, wrap_succ (by omega)]
  by_cases h2 : q < r9.length
  ·rw [List.drop_eq_getElem_cons h2, ih (q + 1) (by omega) (by omega) f (by omega)]
   have h3 : (q : Int) < (r9.length : Int) := by omega
   simp only [h1, h3, h0, decide_true, cond_true, if_true, Int.toNat_natCast, getD_get hlt, getD_get h2, z32_q, obind_some, ordA, cnAt]
   cases cmpC (Row.B r4[q] 0, Row.I r4[q] 1, Row.S r4[q] 2) (Row.B r9[q] 0, Row.I r9[q] 1, Row.S r9[q] 2) != 0 <;> rfl
  ·rw [List.drop_eq_nil_of_le (show r9.length ≤ q by omega)]
   have h3 : ¬ (q : Int) < (r9.length : Int) := by omega
   have h4 : ¬ (r4.length : Int) < (r9.length : Int) := by omega
   have h5 : (r4.length : Int) > (r9.length : Int) := by omega
   simp only [h1, h3, h4, h5, decide_true, decide_false, cond_true, cond_false, ordA]
theorem z40_q (hb : r4.length < big) (hn : r4.length < n) : z40_v n s0 s1 s2 b3 r4 s5 s6 s7 b8 r9 = some (ordF (s0, s1, s2, r4) (s5, s6, s7, r9), ()) := by
 rw [z40_e]
 have hl := z40_loop (n := n) (s0 := s0) (s1 := s1) (s2 := s2) (s5 := s5) (s6 := s6) (s7 := s7) (b3 := b3) (b8 := b8) (r9 := r9) hb r4.length 0 (by omega) (Nat.zero_le _) n hn
 rw [show ((0 : Nat) : Int) = 0 from rfl, List.drop_zero, List.drop_zero] at hl
 simp only [z39_q, obind_some, hl]
 unfold ordF
 cases s0 == s5 <;> cases s1 == s6 <;> cases s2 == s7 <;> rfl
end
theorem z44_loop {n : Nat} {b0 b2 : Bool} {r1 r3 : Rows} (hb : r1.length < big) (hl : r1.length = r3.length) (ha : ∀ r ∈ r1, (Row.R r 3).length < n ∧ (Row.R r 3).length < big) : ∀ k j : Nat, j + k = r1.length → ∀ i, k < i → z44_l4 n b0 r1 b2 r3 i (j : Int) = some (likeF (r1.drop j) (r3.drop j), ()) := by
 intro k
 induction k with
 |zero =>
  intro j hj i hi
  obtain ⟨i, rfl⟩ : ∃ z, i = z + 1 := ⟨i - 1, by omega⟩
  rw [z44_s4, List.drop_eq_nil_of_le (by omega), List.drop_eq_nil_of_le (by omega)]
  have h1 : ¬ ((j : Int) < (r1.length : Int)) := by omega
  simp only [h1, decide_false, cond_false, likeF]
 |succ k ih =>
  intro j hj i hi
  obtain ⟨i, rfl⟩ : ∃ z, i = z + 1 := ⟨i - 1, by omega⟩
  have hlt : j < r1.length := by omega
  have hlt2 : j < r3.length := by omega
  rw [z44_s4, List.drop_eq_getElem_cons hlt, List.drop_eq_getElem_cons hlt2]
  have h1 : (j : Int) < (r1.length : Int) := by omega
  have h2 : (j : Int) < (r3.length : Int) := by omega
  have h0 : (0 : Int) ≤ (j : Int) := by omega
  have hq := ha _ (List.getElem_mem hlt)
  rw [wrap_succ (by omega), ih (j + 1) (by omega) i (by omega)]
  simp only [h1, h2, h0, decide_true, cond_true, if_true, Int.toNat_natCast, getD_get hlt, getD_get hlt2, likeF, fcAt, z40_q hq.2 hq.1, obind_some]
  cases ordF (Row.S r1[j] 0, Row.S r1[j] 1, Row.S r1[j] 2, Row.R r1[j] 3) (Row.S r3[j] 0, Row.S r3[j] 1, Row.S r3[j] 2, Row.R r3[j] 3) != 0 <;> rfl
theorem z44_q {n : Nat} {b0 b2 : Bool} {r1 r3 : Rows} (hb : r1.length < big) (hn : r1.length < n) (ha : ∀ r ∈ r1, (Row.R r 3).length < n ∧ (Row.R r 3).length < big) : z44_v n b0 r1 b2 r3 = some (likeF r1 r3, ()) := by
 rw [z44_e]
 by_cases hl : r1.length = r3.length
 ·have h1 : ((r1.length : Int) != (r3.length : Int)) = false := by simp [hl]
  rw [h1]
  exact z44_loop hb hl ha r1.length 0 (by omega) n hn
 ·have h1 : ((r1.length : Int) != (r3.length : Int)) = true := by simp; omega
  rw [h1]
  cases h : likeF r1 r3 with
  |false => rfl
  |true => exact absurd (likeF_len h) hl
end Go.Den
