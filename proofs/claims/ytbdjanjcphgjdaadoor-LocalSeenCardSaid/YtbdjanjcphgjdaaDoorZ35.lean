import Derived.Test.YtbdjanjcphgjdaaDoorZ33
import Derived.Test.YtbdjanjcphgjdaaDoorZ34
set_option linter.unusedVariables false
set_option linter.unusedSimpArgs false
set_option linter.unusedSectionVars false
namespace Go.Den
open Go.Proofs
set_option maxRecDepth 20000
set_option linter.unusedVariables false
theorem Single_25 {n : Nat} {r1 r14 : Rows} {b0 b13 : Bool} {i0 : Nat} {j28 : Int} {q : Nat} (hq : q < r14.length) (hl : r14.length ≤ 1000000) (hb1 : (Row.R r14[q] 10).length ≤ 1000000) (hf : flatR (ruleD r14[q])) :
    ∀ k j : Nat, j + k = (Row.R r14[q] 10).length → ∀ i, k < i → law13_LocalSingle_l25 n b0 r1 i0 i b13 r14 (j : Int) (q : Int) j28 = law13_LocalSingle_l22 n b0 r1 i0 b13 r14 ((q + 1 : Nat) : Int) j28 := by
  have hb : 4000000 ≤ big := by unfold big; omega
  have hq1 : (q : Int) < (r14.length : Int) := by omega
  have hw : IntKind.wrap IntKind.i64 ((q : Int) + 1) = ((q + 1 : Nat) : Int) := wrap_succ (by omega)
  intro k
  induction k with
  | zero =>
    intro j hj i hi
    obtain ⟨i, rfl⟩ : ∃ m, i = m + 1 := ⟨i - 1, by omega⟩
    rw [law13_LocalSingle_s25]
    have h1 : ¬ (j : Int) < ((Row.R r14[q] 10).length : Int) := by omega
    simp only [hq1, natj, if_true, Int.toNat_natCast, getD_get hq, h1, decide_false, cond_false, hw]
  | succ k ih =>
    intro j hj i hi
    obtain ⟨i, rfl⟩ : ∃ m, i = m + 1 := ⟨i - 1, by omega⟩
    have hlt : j < (Row.R r14[q] 10).length := by omega
    have h1 : (j : Int) < ((Row.R r14[q] 10).length : Int) := by omega
    have hz : (Row.S (Row.R r14[q] 10)[j] 6 == ByteArray.mk #[] && (Row.B (Row.R r14[q] 10)[j] 7 == false && (Row.I (Row.R r14[q] 10)[j] 8 == 0 && (Row.S (Row.R r14[q] 10)[j] 9 == ByteArray.mk #[] && true)))) = true := by
      refine (sameT_eq (tmAt (Row.R r14[q] 10)[j] 6) zeroT).trans ?_
      exact decide_eq_true (hf (litD (Row.R r14[q] 10)[j]) (List.mem_map.2 ⟨_, List.getElem_mem hlt, rfl⟩))
    rw [law13_LocalSingle_s25, wrap_succ (show j < big by omega), ih (j + 1) (by omega) i (by omega)]
    simp only [hq1, natj, if_true, Int.toNat_natCast, getD_get hq, h1, decide_true, cond_true, getD_get hlt, hz, Bool.not_true, cond_false]
theorem Single_22 {n : Nat} {r1 r14 : Rows} {b0 b13 : Bool} (hn : 2000000 < n) (hl : r14.length ≤ 1000000) (hb1 : ∀ r ∈ r14, (Row.R r 10).length ≤ 1000000) (hf : ∀ r ∈ r14, flatR (ruleD r)) :
    ∀ k q : Nat, q + k = r14.length → ∀ i, k < i → law13_LocalSingle_l22 n b0 r1 i b13 r14 (q : Int) (r14.length : Int) = some (true, ()) := by
  have hb : 4000000 ≤ big := by unfold big; omega
  intro k
  induction k with
  | zero =>
    intro q hq i hi
    obtain ⟨i, rfl⟩ : ∃ m, i = m + 1 := ⟨i - 1, by omega⟩
    rw [law13_LocalSingle_s22, live13_q hn]
    have h1 : ¬ (q : Int) < (r14.length : Int) := by omega
    simp only [h1, decide_false, cond_false, beq_self_eq_true, cond_true]; rfl
  | succ k ih =>
    intro q hq i hi
    obtain ⟨i, rfl⟩ : ∃ m, i = m + 1 := ⟨i - 1, by omega⟩
    have hlt : q < r14.length := by omega
    have h1 : (q : Int) < (r14.length : Int) := by omega
    have hbq := hb1 _ (List.getElem_mem hlt)
    rw [law13_LocalSingle_s22]
    simp only [h1, decide_true, cond_true]
    have := Single_25 (n := n) (r1 := r1) (b0 := b0) (b13 := b13) (i0 := i) (j28 := (r14.length : Int)) hlt hl hbq (hf _ (List.getElem_mem hlt)) (Row.R r14[q] 10).length 0 (by omega) n (by omega)
    rw [show (0 : Int) = ((0 : Nat) : Int) from rfl, this]
    exact ih (q + 1) (by omega) i (by omega)
end Go.Den
