import Derived.Test.YtkgiabbndbmmbaaZ03
set_option linter.unusedVariables false
set_option linter.unusedSimpArgs false
set_option linter.unusedSectionVars false
namespace Go.Den
def sumTo (most : Int) (f : Row → Int) : Rows → Int → Int
 |[], n => n
 |r :: l, n => bif decide (n ≤ most) then sumTo most f l (n + f r) else n
theorem sumTo_ge {most : Int} {f : Row → Int} : ∀ (l : Rows) (n : Int), (∀ r ∈ l, 0 ≤ f r) → n ≤ sumTo most f l n
 |[], n, _ => Int.le_refl _
 |r :: l, n, h => by
  unfold sumTo
  have h0 := h r List.mem_cons_self
  have := sumTo_ge (most := most) l (n + f r) (fun q hq => h q (List.mem_cons_of_mem _ hq))
  cases decide (n ≤ most) with
  |true => simp only [cond_true]; omega
  |false => simp only [cond_false]; omega
theorem sumTo_all {most : Int} {f : Row → Int} : ∀ (l : Rows) (n : Int), (∀ r ∈ l, 1 ≤ f r) → sumTo most f l n ≤ most → n + l.length ≤ sumTo most f l n ∧ ∀ r ∈ l, n + f r ≤ sumTo most f l n
 |[], n, _, _ => ⟨by simp [sumTo], fun r hr => by cases hr⟩
 |r :: l, n, h, hm => by
  unfold sumTo at hm ⊢
  have h1 := h r List.mem_cons_self
  have hl : ∀ q ∈ l, 1 ≤ f q := fun q hq => h q (List.mem_cons_of_mem _ hq)
  by_cases hn : n ≤ most
  ·simp only [hn, decide_true, cond_true] at hm ⊢
   obtain ⟨a, b⟩ := sumTo_all l (n + f r) hl hm
   have g := sumTo_ge (most := most) (f := f) l (n + f r) (fun q hq => by have := hl q hq; omega)
   refine ⟨by simp only [List.length_cons]; omega, fun q hq => ?_⟩
   rcases List.mem_cons.1 hq with rfl | hq
   ·exact g
   ·have := b q hq; omega
  ·rw [decide_eq_false hn] at hm
   exact absurd hm hn
theorem sumTo_le {most : Int} {f : Row → Int} {b : Int} (hb : 0 ≤ b) : ∀ (l : Rows) (n : Int), (∀ r ∈ l, f r ≤ b) → n ≤ most + b → sumTo most f l n ≤ most + b
 |[], n, _, hn => hn
 |r :: l, n, h, hn => by
  unfold sumTo
  have h0 := h r List.mem_cons_self
  by_cases hm : n ≤ most
  ·simp only [hm, decide_true, cond_true]
   exact sumTo_le hb l (n + f r) (fun q hq => h q (List.mem_cons_of_mem _ hq)) (by omega)
  ·simp only [hm, decide_false, cond_false]; exact hn
def w4c (r : Row) : Int := Int.tdiv ((Row.S r 2).size : Int) 16
def w4f (r : Row) : Int := 1 + ((Row.R r 3).length : Int) + Int.tdiv (((Row.S r 0).size : Int) + (Row.S r 1).size + (Row.S r 2).size) 16
def w4r (most : Int) (r : Row) (n : Int) : Int := sumTo most w4c (Row.R r 3) (n + w4f r)
def weight4 (most : Int) : Rows → Int → Int
 |[], n => n
 |r :: l, n => bif decide (n ≤ most) then weight4 most l (w4r most r n) else n
@[reducible] def kC : List Kd := [.b, .i .i64, .s]
@[reducible] def kF : List Kd := [.s, .s, .s, .sl kC]
theorem tdiv16 {n : Nat} (h : n ≤ 3 * reachBytes) : 0 ≤ Int.tdiv (n : Int) 16 ∧ Int.tdiv (n : Int) 16 ≤ 3 * reachBytes := by
 have e : Int.tdiv (n : Int) 16 = ((n / 16 : Nat) : Int) := rfl
 rw [e]
 have : n / 16 ≤ n := Nat.div_le_self _ _
 omega
theorem w4c_bound {r : Row} (hs : (Row.S r 2).size ≤ reachBytes) : 0 ≤ w4c r ∧ w4c r ≤ 1000000000000000 := by
 unfold w4c
 have := tdiv16 (n := (Row.S r 2).size) (by omega)
 unfold reachBytes at *
 omega
theorem w4f_bound {r : Row} (hl : (Row.R r 3).length ≤ reachBytes) (h0 : (Row.S r 0).size ≤ reachBytes) (h1 : (Row.S r 1).size ≤ reachBytes) (h2 : (Row.S r 2).size ≤ reachBytes) : 1 ≤ w4f r ∧ w4f r ≤ 1000000000000000 ∧ ((Row.R r 3).length : Int) < w4f r := by
 unfold w4f
 have := tdiv16 (n := (Row.S r 0).size + (Row.S r 1).size + (Row.S r 2).size) (by omega)
 simp only [Int.natCast_add] at this
 unfold reachBytes at *
 omega
theorem fineF {r : Row} (h : Row.ofKds kF r = true ∧ RowFine r) : (Row.R r 3).length ≤ reachBytes ∧ (Row.S r 0).size ≤ reachBytes ∧ (Row.S r 1).size ≤ reachBytes ∧ (Row.S r 2).size ≤ reachBytes ∧ RowsFine kC (Row.R r 3) := ⟨(fine_sl (j := 3) h.1 h.2 rfl).1, fine_S h.2, fine_S h.2, fine_S h.2, (fine_sl (j := 3) h.1 h.2 rfl).2.2.1⟩
end Go.Den
