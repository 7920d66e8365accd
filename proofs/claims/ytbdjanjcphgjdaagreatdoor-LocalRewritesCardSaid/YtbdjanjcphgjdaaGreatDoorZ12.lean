import Derived.Test.YtbdjanjcphgjdaaGreatDoorZ09
set_option linter.unusedVariables false
set_option linter.unusedSimpArgs false
set_option linter.unusedSectionVars false
namespace Go.Den
open Go.Proofs
abbrev Tm := ByteArray × Bool × Int × ByteArray
def tmAt (r : Row) (o : Nat) : Tm := (Row.S r o, Row.B r (o + 1), Row.I r (o + 2), Row.S r (o + 3))
abbrev LitD := Tm × ByteArray × List Tm × Tm
abbrev RuleD := Tm × ByteArray × List Tm × Tm × List LitD
instance decTms : DecidableEq (List Tm × Tm) := inferInstance
instance decLit1 : DecidableEq (ByteArray × List Tm × Tm) := @instDecidableEqProd ByteArray (List Tm × Tm) inferInstance decTms
instance decLit : DecidableEq LitD := @instDecidableEqProd Tm (ByteArray × List Tm × Tm) inferInstance decLit1
instance decLits : DecidableEq (List LitD) := @instDecidableEqList LitD decLit
instance decRule3 : DecidableEq (Tm × List LitD) := @instDecidableEqProd Tm (List LitD) inferInstance decLits
instance decRule2 : DecidableEq (List Tm × Tm × List LitD) := @instDecidableEqProd (List Tm) (Tm × List LitD) inferInstance decRule3
instance decRule1 : DecidableEq (ByteArray × List Tm × Tm × List LitD) := @instDecidableEqProd ByteArray (List Tm × Tm × List LitD) inferInstance decRule2
instance decRule : DecidableEq RuleD := @instDecidableEqProd Tm (ByteArray × List Tm × Tm × List LitD) inferInstance decRule1
instance decRules : DecidableEq (List RuleD) := @instDecidableEqList RuleD decRule
def tms (l : Rows) : List Tm := l.map fun r => tmAt r 0
def litD (l : Row) : LitD := (tmAt l 0, Row.S l 4, tms (Row.R l 5), tmAt l 6)
def ruleD (r : Row) : RuleD := (tmAt r 0, Row.S r 4, tms (Row.R r 5), tmAt r 6, (Row.R r 10).map litD)
def sameT (a b : Tm) : Bool := a.1 == b.1 && (a.2.1 == b.2.1 && (a.2.2.1 == b.2.2.1 && (a.2.2.2 == b.2.2.2 && true)))
theorem sameT_eq (a b : Tm) : sameT a b = decide (a = b) := by
 obtain ⟨a1, a2, a3, a4⟩ := a
 obtain ⟨b1, b2, b3, b4⟩ := b
 have h : sameT (a1, a2, a3, a4) (b1, b2, b3, b4) = true ↔ (a1, a2, a3, a4) = (b1, b2, b3, b4) := by
  unfold sameT
  simp only [Bool.and_true, Bool.and_eq_true, beq_iff_eq, Prod.mk.injEq]
 cases hs : sameT (a1, a2, a3, a4) (b1, b2, b3, b4) with
 |true => exact (decide_eq_true (h.1 hs)).symm
 |false => exact (decide_eq_false (fun e => by rw [h.2 e] at hs; cases hs)).symm
theorem dec_cons {α : Type} [DecidableEq α] (a b : α) (l m : List α) : decide (a :: l = b :: m) = (decide (a = b) && decide (l = m)) := by
 by_cases h1 : a = b <;> by_cases h2 : l = m <;> simp [h1, h2]
theorem tms_len (l : Rows) : (tms l).length = l.length := List.length_map ..
theorem ne_len (a b : Nat) : ((a : Int) != (b : Int)) = !decide (a = b) := by
 by_cases h : a = b
 ·subst h; simp
 ·have : ¬ (a : Int) = (b : Int) := by omega
  simp [bne, h, this]
theorem Terms_ql {n : Nat} {b0 b2 : Bool} {r r3 : Rows} (hb : r.length < big) (he : r.length = r3.length) : ∀ k j : Nat, j + k = r.length → ∀ i, k < i → z44_l4 n b0 r b2 r3 i (j : Int) = some (decide (tms (r.drop j) = tms (r3.drop j)), ()) := by
 intro k
 induction k with
 |zero =>
  intro j hj i hi
  obtain ⟨i, rfl⟩ : ∃ m, i = m + 1 := ⟨i - 1, by omega⟩
  rw [z44_s4, List.drop_eq_nil_of_le (by omega), List.drop_eq_nil_of_le (by omega)]
  have h1 : ¬ (j : Int) < (r.length : Int) := by omega
  simp only [h1, decide_false, cond_false, decide_true]
 |succ k ih =>
  intro j hj i hi
  obtain ⟨i, rfl⟩ : ∃ m, i = m + 1 := ⟨i - 1, by omega⟩
  have hlt : j < r.length := by omega
  have hlt3 : j < r3.length := by omega
  have h1 : (j : Int) < (r.length : Int) := by omega
  have h3 : (j : Int) < (r3.length : Int) := by omega
  have h2 : (0 : Int) ≤ (j : Int) := by omega
  rw [z44_s4, List.drop_eq_getElem_cons hlt, List.drop_eq_getElem_cons hlt3, wrap_succ (show j < big by omega)]
  simp only [h1, h2, h3, if_true, decide_true, cond_true, Int.toNat_natCast, getD_get hlt, getD_get hlt3, tms, List.map_cons, dec_cons]
  rw [← sameT_eq]
  show (bif !sameT (tmAt r[j] 0) (tmAt r3[j] 0) then _ else _) = _
  cases hs : sameT (tmAt r[j] 0) (tmAt r3[j] 0) with
  |false => rfl
  |true => exact ih (j + 1) (by omega) i (by omega)
theorem Terms_qd {n : Nat} {b0 b2 : Bool} {r r3 : Rows} (hb : r.length < big) (hn : r.length < n) : z44_v n b0 r b2 r3 = some (decide (tms r = tms r3), ()) := by
 rw [z44_e, ne_len]
 by_cases h : r.length = r3.length
 ·rw [decide_eq_true h]
  exact Terms_ql hb h r.length 0 (by omega) n hn
 ·have : ¬ tms r = tms r3 := fun e => h (by rw [← tms_len, ← tms_len r3, e])
  rw [decide_eq_false h, decide_eq_false this]; rfl
structure Small (n : Nat) (l : Rows) : Prop where
 len : l.length < big ∧ l.length < n
 in_ : ∀ r ∈ l, (Row.R r 5).length < big ∧ (Row.R r 5).length < n
section
variable {n : Nat} {s0 : ByteArray} {b1 : Bool} {j2 : Int} {s3 s4 : ByteArray} {b5 : Bool} {r6 : Rows} {s7 : ByteArray} {b8 : Bool} {j9 : Int} {s10 : ByteArray} {b11 : Bool} {r12 : Rows}
variable {s13 : ByteArray} {b14 : Bool} {j15 : Int} {s16 s17 : ByteArray} {b18 : Bool} {r19 : Rows} {s20 : ByteArray} {b21 : Bool} {j22 : Int} {s23 : ByteArray} {b24 : Bool} {r25 : Rows}
theorem litD_dec (a b : Row) : decide (litD a = litD b) = (sameT (tmAt a 0) (tmAt b 0) && (Row.S a 4 == Row.S b 4 && (sameT (tmAt a 6) (tmAt b 6) && decide (tms (Row.R a 5) = tms (Row.R b 5))))) := by
 rw [sameT_eq, sameT_eq]
 unfold litD
 have : (Row.S a 4 == Row.S b 4) = decide (Row.S a 4 = Row.S b 4) := by
  by_cases h : Row.S a 4 = Row.S b 4 <;> simp [h]
 rw [this]
 by_cases h1 : tmAt a 0 = tmAt b 0 <;> by_cases h2 : Row.S a 4 = Row.S b 4 <;> by_cases h3 : tmAt a 6 = tmAt b 6 <;> by_cases h4 : tms (Row.R a 5) = tms (Row.R b 5) <;> simp [h1, h2, h3, h4]
theorem SameRule_ql (hb : Small n r12) (he : r12.length = r25.length) : ∀ k j : Nat, j + k = r12.length → ∀ i, k < i →
  z11_l4 n s0 b1 j2 s3 s4 b5 r6 s7 b8 j9 s10 b11 r12 s13 b14 j15 s16 s17 b18 r19 s20 b21 j22 s23 b24 r25 i (j : Int) = some (decide ((r12.drop j).map litD = (r25.drop j).map litD), ()) := by
 intro k
 induction k with
 |zero =>
  intro j hj i hi
  obtain ⟨i, rfl⟩ : ∃ m, i = m + 1 := ⟨i - 1, by omega⟩
  rw [z11_s4, List.drop_eq_nil_of_le (by omega), List.drop_eq_nil_of_le (by omega)]
  have h1 : ¬ (j : Int) < (r12.length : Int) := by omega
  simp only [h1, decide_false, cond_false, decide_true]
 |succ k ih =>
  intro j hj i hi
  obtain ⟨i, rfl⟩ : ∃ m, i = m + 1 := ⟨i - 1, by omega⟩
  have hlt : j < r12.length := by omega
  have hlt3 : j < r25.length := by omega
  have h1 : (j : Int) < (r12.length : Int) := by omega
  have h3 : (j : Int) < (r25.length : Int) := by omega
  have h2 : (0 : Int) ≤ (j : Int) := by omega
  have hin := hb.in_ _ (List.getElem_mem hlt)
  rw [z11_s4, List.drop_eq_getElem_cons hlt, List.drop_eq_getElem_cons hlt3, wrap_succ (show j < big by have := hb.len; omega)]
  simp only [h1, h2, h3, if_true, decide_true, cond_true, Int.toNat_natCast, getD_get hlt, getD_get hlt3, List.map_cons, dec_cons, Terms_qd hin.1 hin.2, obind_some]
  rw [litD_dec]
  show (bif !sameT (tmAt r12[j] 0) (tmAt r25[j] 0) then _ else bif !(Row.S r12[j] 4 == Row.S r25[j] 4) then _ else bif !sameT (tmAt r12[j] 6) (tmAt r25[j] 6) then _ else _) = _
  cases sameT (tmAt r12[j] 0) (tmAt r25[j] 0) with
  |false => rfl
  |true =>
  cases Row.S r12[j] 4 == Row.S r25[j] 4 with
  |false => rfl
  |true =>
  cases sameT (tmAt r12[j] 6) (tmAt r25[j] 6) with
  |false => rfl
  |true =>
  cases decide (tms (Row.R r12[j] 5) = tms (Row.R r25[j] 5)) with
  |false => rfl
  |true => exact ih (j + 1) (by omega) i (by omega)
end
theorem ruleD_dec (a b : Row) : decide (ruleD a = ruleD b) = (sameT (tmAt a 0) (tmAt b 0) && (Row.S a 4 == Row.S b 4 && (sameT (tmAt a 6) (tmAt b 6) && (decide (tms (Row.R a 5) = tms (Row.R b 5)) && decide ((Row.R a 10).map litD = (Row.R b 10).map litD))))) := by
 rw [sameT_eq, sameT_eq]
 unfold ruleD
 have : (Row.S a 4 == Row.S b 4) = decide (Row.S a 4 = Row.S b 4) := by
  by_cases h : Row.S a 4 = Row.S b 4 <;> simp [h]
 rw [this]
 by_cases h1 : tmAt a 0 = tmAt b 0 <;> by_cases h2 : Row.S a 4 = Row.S b 4 <;> by_cases h3 : tmAt a 6 = tmAt b 6 <;> by_cases h4 : tms (Row.R a 5) = tms (Row.R b 5) <;> by_cases h5 : (Row.R a 10).map litD = (Row.R b 10).map litD <;> simp [h1, h2, h3, h4, h5]
structure Small2 (n : Nat) (r : Row) : Prop where
 a : (Row.R r 5).length < big ∧ (Row.R r 5).length < n
 b : Small n (Row.R r 10)
theorem SameRule_qd {n : Nat} {a b : Row} (h : Small2 n a) : z11_v n (Row.S a 0) (Row.B a 1) (Row.I a 2) (Row.S a 3) (Row.S a 4) (Row.N a 5) (Row.R a 5) (Row.S a 6) (Row.B a 7) (Row.I a 8) (Row.S a 9) (Row.N a 10) (Row.R a 10)
  (Row.S b 0) (Row.B b 1) (Row.I b 2) (Row.S b 3) (Row.S b 4) (Row.N b 5) (Row.R b 5) (Row.S b 6) (Row.B b 7) (Row.I b 8) (Row.S b 9) (Row.N b 10) (Row.R b 10) = some (decide (ruleD a = ruleD b), ()) := by
 rw [z11_e, ruleD_dec, ne_len, Terms_qd h.a.1 h.a.2]
 simp only [obind_some]
 show (bif !sameT (tmAt a 0) (tmAt b 0) then _ else bif !(Row.S a 4 == Row.S b 4) then _ else bif !sameT (tmAt a 6) (tmAt b 6) then _ else _) = _
 cases sameT (tmAt a 0) (tmAt b 0) with
 |false => rfl
 |true =>
 cases Row.S a 4 == Row.S b 4 with
 |false => rfl
 |true =>
 cases sameT (tmAt a 6) (tmAt b 6) with
 |false => rfl
 |true =>
 cases decide (tms (Row.R a 5) = tms (Row.R b 5)) with
 |false => rfl
 |true =>
 simp only [Bool.not_true, cond_false, Bool.true_and]
 by_cases hl : (Row.R a 10).length = (Row.R b 10).length
 ·rw [decide_eq_true hl]
  exact SameRule_ql h.b hl (Row.R a 10).length 0 (by omega) n h.b.len.2
 ·have : ¬ (Row.R a 10).map litD = (Row.R b 10).map litD := fun e => hl (by have := congrArg List.length e; simpa using this)
  rw [decide_eq_false hl, decide_eq_false this]; rfl
theorem Like_ql {n : Nat} {b0 b2 : Bool} {r r3 : Rows} (hb : r.length < big) (hs : ∀ a ∈ r, Small2 n a) (he : r.length = r3.length) : ∀ k j : Nat, j + k = r.length → ∀ i, k < i → z53_l4 n b0 r b2 r3 i (j : Int) = some (decide ((r.drop j).map ruleD = (r3.drop j).map ruleD), ()) := by
 intro k
 induction k with
 |zero =>
  intro j hj i hi
  obtain ⟨i, rfl⟩ : ∃ m, i = m + 1 := ⟨i - 1, by omega⟩
  rw [z53_s4, List.drop_eq_nil_of_le (by omega), List.drop_eq_nil_of_le (by omega)]
  have h1 : ¬ (j : Int) < (r.length : Int) := by omega
  simp only [h1, decide_false, cond_false, decide_true]
 |succ k ih =>
  intro j hj i hi
  obtain ⟨i, rfl⟩ : ∃ m, i = m + 1 := ⟨i - 1, by omega⟩
  have hlt : j < r.length := by omega
  have hlt3 : j < r3.length := by omega
  have h1 : (j : Int) < (r.length : Int) := by omega
  have h3 : (j : Int) < (r3.length : Int) := by omega
  have h2 : (0 : Int) ≤ (j : Int) := by omega
  rw [z53_s4, List.drop_eq_getElem_cons hlt, List.drop_eq_getElem_cons hlt3, wrap_succ (show j < big by omega)]
  simp only [h1, h2, h3, if_true, decide_true, cond_true, Int.toNat_natCast, getD_get hlt, getD_get hlt3, List.map_cons, dec_cons, SameRule_qd (b := r3[j]) (hs _ (List.getElem_mem hlt)), obind_some]
  cases hd : decide (ruleD r[j] = ruleD r3[j]) with
  |false => rfl
  |true => exact ih (j + 1) (by omega) i (by omega)
theorem Like_qd {n : Nat} {b0 b2 : Bool} {r r3 : Rows} (hb : r.length < big) (hn : r.length < n) (hs : ∀ a ∈ r, Small2 n a) : z53_v n b0 r b2 r3 = some (decide (r.map ruleD = r3.map ruleD), ()) := by
 rw [z53_e, ne_len]
 by_cases h : r.length = r3.length
 ·rw [decide_eq_true h]
  exact Like_ql hb hs h r.length 0 (by omega) n hn
 ·have : ¬ r.map ruleD = r3.map ruleD := fun e => h (by have := congrArg List.length e; simpa using this)
  rw [decide_eq_false h, decide_eq_false this]; rfl
end Go.Den
