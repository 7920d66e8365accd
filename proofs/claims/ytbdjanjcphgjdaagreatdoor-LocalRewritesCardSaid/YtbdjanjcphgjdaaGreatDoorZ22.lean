import Derived.Test.YtbdjanjcphgjdaaGreatDoorZ19
import Derived.Test.YtbdjanjcphgjdaaGreatDoorZ05
set_option linter.unusedVariables false
set_option linter.unusedSimpArgs false
set_option linter.unusedSectionVars false
namespace Go.Den
open Go.Proofs
theorem wsum {z a b : Int} (h0 : 0 ≤ z) (h1 : z ≤ 3000000000000000) (h2 : 0 ≤ a) (h3 : a ≤ 1000000000000000) (h4 : 0 ≤ b) (h5 : b ≤ 1000000000000000) :
  IntKind.wrap IntKind.i64 (z + IntKind.wrap IntKind.i64 (IntKind.wrap IntKind.i64 (1 + a) + IntKind.wrap IntKind.i64 b)) = z + (1 + a + b) := by
 rw [wrap_small (z := 1 + a) (by omega) (by omega), wrap_small (z := b) (by omega) (by omega), wrap_small (z := 1 + a + b) (by omega) (by omega), wrap_small (z := z + (1 + a + b)) (by omega) (by omega)]
section
variable {n : Nat} {b0 : Bool} {most : Int} (hm0 : 0 ≤ most) (hm : most ≤ 1000000)
include hm0 hm
theorem weight5_inner {r1 : Rows} (hr : RowsFine kR r1) (hlen : r1.length ≤ reachBytes) {j i0 : Nat} (hj : j < r1.length) : ∀ k q : Nat, q + k = (Row.R r1[j] 10).length → ∀ i z, k < i → 0 ≤ z → z ≤ most + 2000000000000000 →
  z27_l7 n b0 r1 most i0 i z (q : Int) (j : Int) = z27_l3 n b0 r1 most i0 (sumTo most w5l ((Row.R r1[j] 10).drop q) z) ((j + 1 : Nat) : Int) := by
 have hfr := fineR (rowsFine_get hr hj)
 have g1 : (0 : Int) ≤ (j : Int) := by omega
 have g2 : (j : Int) < (r1.length : Int) := by omega
 have wj : IntKind.wrap IntKind.i64 ((j : Int) + 1) = ((j + 1 : Nat) : Int) := wrap_succ (by unfold reachBytes at *; unfold big; omega)
 intro k
 induction k with
 |zero =>
  intro q hq i z hi h0 hz
  obtain ⟨i, rfl⟩ : ∃ m, i = m + 1 := ⟨i - 1, by omega⟩
  rw [z27_s7]
  simp only [g1, g2, if_true, Int.toNat_natCast, getD_get hj]
  have h1 : ¬ (q : Int) < ((Row.R r1[j] 10).length : Int) := by omega
  rw [List.drop_eq_nil_of_le (by omega)]
  simp only [h1, decide_false, cond_false, sumTo, wj]
 |succ k ih =>
  intro q hq i z hi h0 hz
  obtain ⟨i, rfl⟩ : ∃ m, i = m + 1 := ⟨i - 1, by omega⟩
  have hlt : q < (Row.R r1[j] 10).length := by omega
  rw [z27_s7, List.drop_eq_getElem_cons hlt]
  have h1 : (q : Int) < ((Row.R r1[j] 10).length : Int) := by omega
  have h2 : (0 : Int) ≤ (q : Int) := by omega
  simp only [g1, g2, if_true, Int.toNat_natCast, getD_get hj, h1, h2, decide_true, cond_true, getD_get hlt, sumTo, wj]
  by_cases hzm : z ≤ most
  ·have hfl := fineL (rowsFine_get hfr.2.2.2 hlt)
   have hb := w5l_bound hfl.1 hfl.2
   have ht := tdiv16 (n := (Row.S (Row.R r1[j] 10)[q] 4).size) (by omega)
   have wq : IntKind.wrap IntKind.i64 ((q : Int) + 1) = ((q + 1 : Nat) : Int) := wrap_succ (by unfold reachBytes at *; unfold big; omega)
   have hw : IntKind.wrap IntKind.i64 (z + IntKind.wrap IntKind.i64 (IntKind.wrap IntKind.i64 (1 + ((Row.R (Row.R r1[j] 10)[q] 5).length : Int)) + IntKind.wrap IntKind.i64 (Int.tdiv ((Row.S (Row.R r1[j] 10)[q] 4).size : Int) 16))) = z + w5l (Row.R r1[j] 10)[q] := by
    unfold w5l at hb ⊢
    unfold reachBytes at *
    exact wsum (by omega) (by omega) (by omega) (by omega) (by omega) (by omega)
   simp only [hzm, decide_true, cond_true, hw, wq]
   exact ih (q + 1) (by omega) i _ (by omega) (by omega) (by omega)
  ·simp only [hzm, decide_false, cond_false]
theorem weight5_outer {r1 : Rows} (hr : RowsFine kR r1) (hlen : r1.length ≤ reachBytes) (hn : ∀ r ∈ r1, (Row.R r 10).length < n) : ∀ k q : Nat, q + k = r1.length → ∀ i z, k < i → 0 ≤ z → z ≤ most + 2000000000000000 →
  z27_l3 n b0 r1 most i z (q : Int) = some (weight5 most (r1.drop q) z, ()) := by
 intro k
 induction k with
 |zero =>
  intro q hq i z hi h0 hz
  obtain ⟨i, rfl⟩ : ∃ m, i = m + 1 := ⟨i - 1, by omega⟩
  rw [z27_s3, List.drop_eq_nil_of_le (by omega)]
  have h1 : ¬ (q : Int) < (r1.length : Int) := by omega
  simp only [h1, decide_false, cond_false, weight5]
 |succ k ih =>
  intro q hq i z hi h0 hz
  obtain ⟨i, rfl⟩ : ∃ m, i = m + 1 := ⟨i - 1, by omega⟩
  have hlt : q < r1.length := by omega
  have hfr := fineR (rowsFine_get hr hlt)
  rw [z27_s3, List.drop_eq_getElem_cons hlt]
  have h1 : (q : Int) < (r1.length : Int) := by omega
  have h2 : (0 : Int) ≤ (q : Int) := by omega
  simp only [h1, h2, if_true, decide_true, cond_true, Int.toNat_natCast, getD_get hlt, weight5]
  by_cases hzm : z ≤ most
  ·have hb := w5l_bound hfr.1 hfr.2.1
   have ht := tdiv16 (n := (Row.S r1[q] 4).size) (by omega)
   have hw : IntKind.wrap IntKind.i64 (z + IntKind.wrap IntKind.i64 (IntKind.wrap IntKind.i64 (1 + ((Row.R r1[q] 5).length : Int)) + IntKind.wrap IntKind.i64 (Int.tdiv ((Row.S r1[q] 4).size : Int) 16))) = z + w5l r1[q] := by
    unfold w5l at hb ⊢
    unfold reachBytes at *
    exact wsum (by omega) (by omega) (by omega) (by omega) (by omega) (by omega)
   simp only [hzm, decide_true, cond_true, hw]
   have hi := weight5_inner hm0 hm (n := n) (b0 := b0) hr hlen (i0 := i) hlt (Row.R r1[q] 10).length 0 (by omega) n (z + w5l r1[q]) (hn _ (List.getElem_mem hlt)) (by omega) (by omega)
   rw [show ((0 : Nat) : Int) = 0 from rfl] at hi
   rw [hi, List.drop_zero]
   have hfl : ∀ r ∈ Row.R r1[q] 10, 1 ≤ w5l r ∧ w5l r ≤ 1000000000000000 := fun r hr' => by
    have hfl := fineL (rowsFine_mem hfr.2.2.2 hr')
    have := w5l_bound hfl.1 hfl.2
    omega
   have a1 := sumTo_ge (most := most) (f := w5l) (Row.R r1[q] 10) (z + w5l r1[q]) (fun r hr' => by have := hfl r hr'; omega)
   have a2 := sumTo_le (most := most) (f := w5l) (b := 1000000000000000) (by omega) (Row.R r1[q] 10) (z + w5l r1[q]) (fun r hr' => by have := hfl r hr'; omega) (by omega)
   exact ih (q + 1) (by omega) i _ (by omega) (by omega) (by omega)
  ·simp only [hzm, decide_false, cond_false]
theorem weight5_q {r1 : Rows} (hr : RowsFine kR r1) (hlen : r1.length ≤ reachBytes) (hn : ∀ r ∈ r1, (Row.R r 10).length < n) (hn' : r1.length < n) : z27_v n b0 r1 most = some (weight5 most r1 0, ()) := by
 rw [z27_e]
 exact weight5_outer hm0 hm hr hlen hn r1.length 0 (by omega) n 0 hn' (by omega) (by omega)
end
end Go.Den
