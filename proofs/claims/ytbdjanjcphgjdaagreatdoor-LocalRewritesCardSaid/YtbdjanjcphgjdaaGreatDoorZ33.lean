import Derived.Test.YtbdjanjcphgjdaaGreatDoorZ32
set_option linter.unusedVariables false
set_option linter.unusedSimpArgs false
set_option linter.unusedSectionVars false
namespace Go.Den
open Go.Proofs
set_option maxRecDepth 20000
set_option linter.unusedVariables false
def rewL : List RuleD → Nat → List RuleD
 |[], _ => []
 |d :: t, i => oneL (i : Int) d d.2.2.2.2 0 [] [] ++ rewL t (i + 1)
theorem oneL_len (i : Int) (d : RuleD) : ∀ (l : List LitD) (k : Nat) (re : List LitD) (out : List RuleD), (oneL i d l k re out).length ≤ out.length + 2 * l.length + 1
 |[], k, re, out => by unfold oneL; simp
 |a :: l, k, re, out => by
  unfold oneL
  cases decide (a.2.2.2 = zeroT) with
  |true =>
   have := oneL_len i d l (k + 1) (re ++ [noAt a]) out
   simp only [cond_true, List.length_cons]; omega
  |false =>
   cases decide (a.2.2.2 = d.1) with
   |true =>
    have := oneL_len i d l (k + 1) (re ++ [noAt a]) out
    simp only [cond_true, cond_false, List.length_cons]; omega
   |false =>
    simp only [cond_false]
    refine Nat.le_trans (oneL_len i d l (k + 1) _ _) ?_
    simp only [List.length_append, List.length_cons, List.length_nil]; omega
theorem one_q {n : Nat} {i : Nat} {r : Row} (hn : 2000000 < n) (h : RuleOk n r) (hi : i ≤ 1000) : ∃ c rows, z80_v n (i : Int) (Row.S r 0) (Row.B r 1) (Row.I r 2) (Row.S r 3) (Row.S r 4) (Row.N r 5) (Row.R r 5) (Row.S r 6) (Row.B r 7) (Row.I r 8) (Row.S r 9) (Row.N r 10) (Row.R r 10) = some ((c, rows), ()) ∧
  rows.map ruleD = oneL (i : Int) (ruleD r) (ruleD r).2.2.2.2 0 [] [] := by
 have hB := bodyOk h
 have hl := hB.len
 rw [z80_e]
 exact one_l (n := n) (j0 := (i : Int)) (s1 := Row.S r 0) (b2 := Row.B r 1) (j3 := Row.I r 2) (s4 := Row.S r 3) (s5 := Row.S r 4) (b6 := Row.N r 5) (r7 := Row.R r 5) (s8 := Row.S r 6) (b9 := Row.B r 7) (j10 := Row.I r 8) (s11 := Row.S r 9) (b12 := Row.N r 10) (r13 := Row.R r 10) hn hB h.len (by omega) (by omega) (Row.R r 10).length 0 (by omega) n true [] true [] (by omega) (by simp) (fun x hx => by cases hx) (by simp)
theorem Rewrite_l {n : Nat} {r1 : Rows} {b0 : Bool} (hn : 2000000 < n) (hl : r1.length ≤ 300) (h : ∀ r ∈ r1, RuleOk n r) : ∀ k q : Nat, q + k = r1.length → ∀ (i : Nat) (b : Bool) (out : Rows), k < i → out.length ≤ 2001 * q →
  ∃ c rows, z18_l6 n b0 r1 i b out (q : Int) = some (((c, rows), (0, ())), ()) ∧ rows.map ruleD = out.map ruleD ++ rewL ((r1.drop q).map ruleD) q := by
 have hb : 4000000 ≤ big := by unfold big; omega
 intro k
 induction k with
 |zero =>
  intro q hq i b out hi ho
  obtain ⟨i, rfl⟩ : ∃ m, i = m + 1 := ⟨i - 1, by omega⟩
  have hnil : r1.drop q = [] := List.drop_eq_nil_of_le (by omega)
  rw [z18_s6, hnil]
  have h1 : ¬ (q : Int) < (r1.length : Int) := by omega
  simp only [h1, decide_false, cond_false]
  exact ⟨b, out, rfl, by simp [rewL]⟩
 |succ k ih =>
  intro q hq i b out hi ho
  obtain ⟨i, rfl⟩ : ∃ m, i = m + 1 := ⟨i - 1, by omega⟩
  have hlt : q < r1.length := by omega
  have h1 : (q : Int) < (r1.length : Int) := by omega
  have hd : r1.drop q = r1[q] :: r1.drop (q + 1) := List.drop_eq_getElem_cons hlt
  have hr := h r1[q] (List.getElem_mem hlt)
  obtain ⟨c, rows, g1, g2⟩ := one_q (i := q) hn hr (by omega)
  have hrl : rows.length ≤ 2001 := by
   have e1 : rows.length = (oneL (q : Int) (ruleD r1[q]) (ruleD r1[q]).2.2.2.2 0 [] []).length := by rw [← g2, List.length_map]
   have e2 := oneL_len (q : Int) (ruleD r1[q]) (ruleD r1[q]).2.2.2.2 0 [] []
   have e3 : (ruleD r1[q]).2.2.2.2.length = (Row.R r1[q] 10).length := by simp [ruleD]
   have e4 := hr.blen
   simp only [List.length_nil] at e2
   omega
  rw [z18_s6, wrap_succ (show q < big by omega)]
  simp only [h1, natj, if_true, decide_true, cond_true, Int.toNat_natCast, getD_get hlt]
  rw [g1]
  simp only [obind]
  rw [if_pos (by omega)]
  obtain ⟨c2, rows2, g3, g4⟩ := ih (q + 1) (by omega) i (b && List.isEmpty rows) (out ++ rows) (by omega) (by rw [List.length_append]; omega)
  refine ⟨c2, rows2, g3, ?_⟩
  rw [g4, hd, List.map_append, g2, List.map_cons, rewL, List.append_assoc]
theorem Rewrite_q {n : Nat} {r1 : Rows} {b0 : Bool} (hn : 2000000 < n) (hl : r1.length ≤ 300) (h : ∀ r ∈ r1, RuleOk n r) :
  (∃ c rows, (progC r1).1 = 0 ∧ z18_v n b0 r1 = some (((c, rows), (0, ())), ()) ∧ rows.map ruleD = rewL (r1.map ruleD) 0) ∨ ((progC r1).1 ≠ 0 ∧ z18_v n b0 r1 = some (((true, []), ((progC r1).1, ())), ())) := by
 rw [z18_e, Program_q hn (by omega) h]
 simp only [obind, outP]
 by_cases he : (progC r1).1 = 0
 ·left
  obtain ⟨c, rows, g1, g2⟩ := Rewrite_l (n := n) (b0 := b0) hn hl h r1.length 0 (by omega) n true [] (by omega) (by simp)
  refine ⟨c, rows, he, ?_, by rw [g2]; simp⟩
  rw [he]
  simp only [bne_self_eq_false, cond_false]
  exact g1
 ·right
  have : ((progC r1).1 != 0) = true := by simpa using he
  refine ⟨he, ?_⟩
  rw [this]; rfl
end Go.Den
