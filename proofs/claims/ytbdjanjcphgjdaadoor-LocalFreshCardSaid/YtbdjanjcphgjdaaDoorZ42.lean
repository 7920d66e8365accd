import Derived.Test.YtbdjanjcphgjdaaDoorZ41
set_option linter.unusedVariables false
set_option linter.unusedSimpArgs false
set_option linter.unusedSectionVars false
namespace Go.Den
open Go.Proofs
section
variable {n : Nat} {b0 : Bool} {most : Int} (hm0 : 0 ≤ most) (hm : most ≤ 1000000)
include hm0 hm
theorem weight4_inner {r1 : Rows} (hr : RowsFine kF r1) (hlen : r1.length ≤ reachBytes) {j i0 : Nat} (hj : j < r1.length) : ∀ k q : Nat, q + k = (Row.R r1[j] 3).length → ∀ i z, k < i → 0 ≤ z → z ≤ most + 2000000000000000 →
    ref04_Weight_l7 n b0 r1 most i0 i z (q : Int) (j : Int) = ref04_Weight_l3 n b0 r1 most i0 (sumTo most w4c ((Row.R r1[j] 3).drop q) z) ((j + 1 : Nat) : Int) := by
  have hfr := fineF (rowsFine_get hr hj)
  have g1 : (0 : Int) ≤ (j : Int) := by omega
  have g2 : (j : Int) < (r1.length : Int) := by omega
  have wj : IntKind.wrap IntKind.i64 ((j : Int) + 1) = ((j + 1 : Nat) : Int) := wrap_succ (by unfold reachBytes at *; unfold big; omega)
  intro k
  induction k with
  | zero =>
    intro q hq i z hi h0 hz
    obtain ⟨i, rfl⟩ : ∃ m, i = m + 1 := ⟨i - 1, by omega⟩
    rw [ref04_Weight_s7]
    simp only [g1, g2, if_true, Int.toNat_natCast, getD_get hj]
    have h1 : ¬ (q : Int) < ((Row.R r1[j] 3).length : Int) := by omega
    rw [List.drop_eq_nil_of_le (by omega)]
    simp only [h1, decide_false, cond_false, sumTo, wj]
  | succ k ih =>
    intro q hq i z hi h0 hz
    obtain ⟨i, rfl⟩ : ∃ m, i = m + 1 := ⟨i - 1, by omega⟩
    have hlt : q < (Row.R r1[j] 3).length := by omega
    rw [ref04_Weight_s7, List.drop_eq_getElem_cons hlt]
    have h1 : (q : Int) < ((Row.R r1[j] 3).length : Int) := by omega
    have h2 : (0 : Int) ≤ (q : Int) := by omega
    simp only [g1, g2, if_true, Int.toNat_natCast, getD_get hj, h1, h2, decide_true, cond_true, getD_get hlt, sumTo, wj]
    by_cases hzm : z ≤ most
    · have hs := fine_S (j := 2) (rowsFine_get hfr.2.2.2.2 hlt).2
      have hb := w4c_bound hs
      have wq : IntKind.wrap IntKind.i64 ((q : Int) + 1) = ((q + 1 : Nat) : Int) := wrap_succ (by unfold reachBytes at *; unfold big; omega)
      have hw : IntKind.wrap IntKind.i64 (z + IntKind.wrap IntKind.i64 (Int.tdiv ((Row.S (Row.R r1[j] 3)[q] 2).size : Int) 16)) = z + w4c (Row.R r1[j] 3)[q] := by
        unfold w4c at hb ⊢
        rw [wrap_small (z := Int.tdiv ((Row.S (Row.R r1[j] 3)[q] 2).size : Int) 16) (by omega) (by omega), wrap_small (z := z + Int.tdiv ((Row.S (Row.R r1[j] 3)[q] 2).size : Int) 16) (by omega) (by omega)]
      simp only [hzm, decide_true, cond_true, hw, wq]
      exact ih (q + 1) (by omega) i _ (by omega) (by omega) (by omega)
    · simp only [hzm, decide_false, cond_false]
theorem weight4_outer {r1 : Rows} (hr : RowsFine kF r1) (hlen : r1.length ≤ reachBytes) (hn : ∀ r ∈ r1, (Row.R r 3).length < n) : ∀ k q : Nat, q + k = r1.length → ∀ i z, k < i → 0 ≤ z → z ≤ most + 2000000000000000 →
    ref04_Weight_l3 n b0 r1 most i z (q : Int) = some (weight4 most (r1.drop q) z, ()) := by
  intro k
  induction k with
  | zero =>
    intro q hq i z hi h0 hz
    obtain ⟨i, rfl⟩ : ∃ m, i = m + 1 := ⟨i - 1, by omega⟩
    rw [ref04_Weight_s3, List.drop_eq_nil_of_le (by omega)]
    have h1 : ¬ (q : Int) < (r1.length : Int) := by omega
    simp only [h1, decide_false, cond_false, weight4]
  | succ k ih =>
    intro q hq i z hi h0 hz
    obtain ⟨i, rfl⟩ : ∃ m, i = m + 1 := ⟨i - 1, by omega⟩
    have hlt : q < r1.length := by omega
    have hfr := fineF (rowsFine_get hr hlt)
    rw [ref04_Weight_s3, List.drop_eq_getElem_cons hlt]
    have h1 : (q : Int) < (r1.length : Int) := by omega
    have h2 : (0 : Int) ≤ (q : Int) := by omega
    simp only [h1, h2, if_true, decide_true, cond_true, Int.toNat_natCast, getD_get hlt, weight4]
    by_cases hzm : z ≤ most
    · have hb := w4f_bound hfr.1 hfr.2.1 hfr.2.2.1 hfr.2.2.2.1
      have ht := tdiv16 (n := (Row.S r1[q] 0).size + (Row.S r1[q] 1).size + (Row.S r1[q] 2).size) (by omega)
      have hw : IntKind.wrap IntKind.i64 (z + IntKind.wrap IntKind.i64 (IntKind.wrap IntKind.i64 (1 + ((Row.R r1[q] 3).length : Int)) + IntKind.wrap IntKind.i64 (Int.tdiv (IntKind.wrap IntKind.i64 (IntKind.wrap IntKind.i64 (((Row.S r1[q] 0).size : Int) + ((Row.S r1[q] 1).size : Int)) + ((Row.S r1[q] 2).size : Int))) 16))) = z + w4f r1[q] := by
        simp only [Int.natCast_add] at ht
        unfold w4f at hb ⊢
        unfold reachBytes at *
        rw [wrap_small (z := ((Row.S r1[q] 0).size : Int) + ((Row.S r1[q] 1).size : Int)) (by omega) (by omega), wrap_small (z := ((Row.S r1[q] 0).size : Int) + ((Row.S r1[q] 1).size : Int) + ((Row.S r1[q] 2).size : Int)) (by omega) (by omega)]
        exact wsum (by omega) (by omega) (by omega) (by omega) (by omega) (by omega)
      simp only [hzm, decide_true, cond_true, hw]
      have hi := weight4_inner hm0 hm (n := n) (b0 := b0) hr hlen (i0 := i) hlt (Row.R r1[q] 3).length 0 (by omega) n (z + w4f r1[q]) (hn _ (List.getElem_mem hlt)) (by omega) (by omega)
      rw [show ((0 : Nat) : Int) = 0 from rfl] at hi
      rw [hi, List.drop_zero]
      have hfl : ∀ r ∈ Row.R r1[q] 3, 0 ≤ w4c r ∧ w4c r ≤ 1000000000000000 := fun r hr' => w4c_bound (fine_S (rowsFine_mem hfr.2.2.2.2 hr').2)
      have a1 := sumTo_ge (most := most) (f := w4c) (Row.R r1[q] 3) (z + w4f r1[q]) (fun r hr' => by have := hfl r hr'; omega)
      have a2 := sumTo_le (most := most) (f := w4c) (b := 1000000000000000) (by omega) (Row.R r1[q] 3) (z + w4f r1[q]) (fun r hr' => by have := hfl r hr'; omega) (by omega)
      exact ih (q + 1) (by omega) i _ (by omega) (by omega) (by omega)
    · simp only [hzm, decide_false, cond_false]
theorem weight4_q {r1 : Rows} (hr : RowsFine kF r1) (hlen : r1.length ≤ reachBytes) (hn : ∀ r ∈ r1, (Row.R r 3).length < n) (hn' : r1.length < n) : ref04_Weight_v n b0 r1 most = some (weight4 most r1 0, ()) := by
  rw [ref04_Weight_e]
  exact weight4_outer hm0 hm hr hlen hn r1.length 0 (by omega) n 0 hn' (by omega) (by omega)
end
theorem weight4_ge {most : Int} : ∀ (l : Rows) (z : Int), RowsFine kF l → z ≤ weight4 most l z
  | [], z, _ => Int.le_refl _
  | r :: l, z, h => by
    unfold weight4
    have hfr := fineF ⟨h.1, h.2.1⟩
    have hb := w4f_bound hfr.1 hfr.2.1 hfr.2.2.1 hfr.2.2.2.1
    have hfl : ∀ q ∈ Row.R r 3, 0 ≤ w4c q := fun q hq => (w4c_bound (fine_S (rowsFine_mem hfr.2.2.2.2 hq).2)).1
    have a1 := sumTo_ge (most := most) (f := w4c) (Row.R r 3) (z + w4f r) hfl
    have := weight4_ge (most := most) l (w4r most r z) h.2.2
    unfold w4r at *
    cases decide (z ≤ most) with
    | true => simp only [cond_true]; omega
    | false => simp only [cond_false]; omega
theorem weight4_all {most : Int} : ∀ (l : Rows) (z : Int), RowsFine kF l → 0 ≤ z → weight4 most l z ≤ most → z + l.length ≤ most ∧ ∀ r ∈ l, ((Row.R r 3).length : Int) ≤ most
  | [], z, _, _, hm => ⟨by simpa [weight4] using hm, fun r hr => by cases hr⟩
  | r :: l, z, h, hz, hm => by
    unfold weight4 at hm
    have hfr := fineF ⟨h.1, h.2.1⟩
    have hb := w4f_bound hfr.1 hfr.2.1 hfr.2.2.1 hfr.2.2.2.1
    by_cases hzm : z ≤ most
    · simp only [hzm, decide_true, cond_true] at hm
      have hfl : ∀ q ∈ Row.R r 3, 0 ≤ w4c q := fun q hq => (w4c_bound (fine_S (rowsFine_mem hfr.2.2.2.2 hq).2)).1
      have g := weight4_ge (most := most) l (w4r most r z) h.2.2
      have a1 := sumTo_ge (most := most) (f := w4c) (Row.R r 3) (z + w4f r) hfl
      obtain ⟨c1, c2⟩ := weight4_all l (w4r most r z) h.2.2 (by unfold w4r; omega) hm
      unfold w4r at c1 g
      refine ⟨by simp only [List.length_cons]; omega, fun q hq => ?_⟩
      rcases List.mem_cons.1 hq with rfl | hq
      · omega
      · exact c2 q hq
    · rw [decide_eq_false hzm] at hm
      exact absurd hm hzm
end Go.Den
