import Derived.Test.YtbdjanjcphgjdaaDoorZ37
set_option linter.unusedVariables false
set_option linter.unusedSimpArgs false
set_option linter.unusedSectionVars false
namespace Go.Den
open Go.Proofs
set_option maxRecDepth 20000
set_option linter.unusedVariables false
theorem Single_12 {n : Nat} {r1 r9 : Rows} {b0 b8 : Bool} {i0 : Nat} {q : Nat} (hn : 2000000 < n) (hq : q < r1.length) (hl : r1.length ≤ 1000) (hm : (Row.R r1[q] 10).length ≤ 1000) (h5 : (Row.R r1[q] 5).length ≤ 1000) (h9 : r9.length ≤ 1000000) :
    ∀ k j : Nat, j + k = (Row.R r1[q] 10).length → ∀ (i a a2 : Nat), k < i → a + remN (ruleD r1[q]).1 (((Row.R r1[q] 10).map litD).drop j) = a2 + 1 → a2 < r9.length → a2 ≤ 1000000 →
      (∀ x, r9[a2]? = some x → (ruleD x).1 = (ruleD r1[q]).1 ∧ (ruleD x).2.1 = (ruleD r1[q]).2.1 ∧ (ruleD x).2.2.1 = (ruleD r1[q]).2.2.1 ∧ (ruleD x).2.2.2.1 = (ruleD r1[q]).2.2.2.1) →
      law13_LocalSingle_l12 n b0 r1 i0 i b8 r9 (a : Int) (j : Int) (q : Int) = law13_LocalSingle_l8 n b0 r1 i0 b8 r9 ((a2 + 1 : Nat) : Int) ((q + 1 : Nat) : Int) := by
  have hb : 4000000 ≤ big := by unfold big; omega
  have hq1 : (q : Int) < (r1.length : Int) := by omega
  have hw : IntKind.wrap IntKind.i64 ((q : Int) + 1) = ((q + 1 : Nat) : Int) := wrap_succ (by omega)
  intro k
  induction k with
  | zero =>
    intro j hj i a a2 hi ha h2 h2b hx
    obtain ⟨i, rfl⟩ : ∃ m, i = m + 1 := ⟨i - 1, by omega⟩
    have hnil : ((Row.R r1[q] 10).map litD).drop j = [] := List.drop_eq_nil_of_le (by rw [List.length_map]; omega)
    rw [hnil, remN, Nat.add_zero] at ha
    subst ha
    obtain ⟨e1, e2, e3, e4⟩ := hx r9[a2] (List.getElem?_eq_getElem h2)
    have hs1 := (sameT_eq (tmAt r9[a2] 0) (tmAt r1[q] 0)).trans (decide_eq_true e1)
    have hs2 := (sameT_eq (tmAt r9[a2] 6) (tmAt r1[q] 6)).trans (decide_eq_true e4)
    have hp : Row.S r9[a2] 4 = Row.S r1[q] 4 := e2
    have hwa : IntKind.wrap IntKind.i64 (((a2 + 1 : Nat) : Int) - 1) = (a2 : Int) := by rw [wrap_small (by omega) (by omega)]; omega
    have ht : (Row.R r9[a2] 5).length = (Row.R r1[q] 5).length := by rw [← tms_len, ← tms_len (Row.R r1[q] 5)]; exact congrArg List.length e3
    have hT := Terms_qd (n := n) (b0 := Row.N r9[a2] 5) (b2 := Row.N r1[q] 5) (r := Row.R r9[a2] 5) (r3 := Row.R r1[q] 5) (by omega) (by omega)
    rw [law13_LocalSingle_s12]
    have h1 : ¬ (j : Int) < ((Row.R r1[q] 10).length : Int) := by omega
    have hg : ¬ ((a2 + 1 : Nat) : Int) > (r9.length : Int) := by omega
    have hlt9 : (a2 : Int) < (r9.length : Int) := by omega
    simp only [hq1, natj, if_true, Int.toNat_natCast, getD_get hq, h1, decide_false, cond_false, hg, hwa, hlt9, getD_get h2, hw, hT]
    have hs1' : (Row.S r9[a2] 0 == Row.S r1[q] 0 && (Row.B r9[a2] 1 == Row.B r1[q] 1 && (Row.I r9[a2] 2 == Row.I r1[q] 2 && (Row.S r9[a2] 3 == Row.S r1[q] 3 && true)))) = true := hs1
    have hs2' : (Row.S r9[a2] 6 == Row.S r1[q] 6 && (Row.B r9[a2] 7 == Row.B r1[q] 7 && (Row.I r9[a2] 8 == Row.I r1[q] 8 && (Row.S r9[a2] 9 == Row.S r1[q] 9 && true)))) = true := hs2
    have hT' : decide (tms (Row.R r9[a2] 5) = tms (Row.R r1[q] 5)) = true := decide_eq_true e3
    rw [hs1', hs2', hp, hT']
    simp only [Bool.not_true, cond_false, beq_self_eq_true, obind]
  | succ k ih =>
    intro j hj i a a2 hi ha h2 h2b hx
    obtain ⟨i, rfl⟩ : ∃ m, i = m + 1 := ⟨i - 1, by omega⟩
    have hlt : j < (Row.R r1[q] 10).length := by omega
    have h1 : (j : Int) < ((Row.R r1[q] 10).length : Int) := by omega
    rw [body_drop hlt, remN_cons] at ha
    rw [law13_LocalSingle_s12, wrap_succ (show j < big by omega)]
    simp only [hq1, natj, if_true, Int.toNat_natCast, getD_get hq, h1, decide_true, cond_true]
    rw [Remote_q hlt]
    simp only [obind]
    cases hr : remB (ruleD r1[q]).1 (litD (Row.R r1[q] 10)[j]) with
    | true =>
      rw [hr] at ha
      have hwa : IntKind.wrap IntKind.i64 ((a : Int) + 2) = ((a + 2 : Nat) : Int) := by simp only [cond_true] at ha; rw [wrap_small (by omega) (by omega)]; omega
      simp only [cond_true, hwa] at ha ⊢
      exact ih (j + 1) (by omega) i (a + 2) a2 (by omega) (by omega) h2 h2b hx
    | false =>
      rw [hr] at ha
      simp only [cond_false] at ha ⊢
      exact ih (j + 1) (by omega) i a a2 (by omega) (by omega) h2 h2b hx
end Go.Den
