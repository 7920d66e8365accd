import Derived.Test.YtlpnccpagikioaaDoorZ09
import Derived.Test.YtlpnccpagikioaaDoorZ11
import Derived.Test.YtlpnccpagikioaaDoorZ02
import Derived.Test.YtlpnccpagikioaaDoorZ05
set_option linter.unusedVariables false
set_option linter.unusedSimpArgs false
set_option linter.unusedSectionVars false
/- Rules as data: what ref05.Like tells. -/
namespace Go.Den
open Go.Proofs
abbrev Tm := ByteArray × Bool × Int × ByteArray
def tmAt (r : Row) (o : Nat) : Tm := (Row.S r o, Row.B r (o + 1), Row.I r (o + 2), Row.S r (o + 3))
abbrev LitD := Tm × ByteArray × List Tm × Tm
abbrev RuleD := Tm × ByteArray × List Tm × Tm × List LitD
instance decTms : DecidableEq (List Tm × Tm) := inferInstance
instance decLit1 : DecidableEq (ByteArray × List Tm × Tm) := @instDecidableEqProd ByteArray (List Tm × Tm) inferInstance decTms
instance decLit : DecidableEq LitD := @instDecidableEqProd Tm (ByteArray × List Tm × Tm) inferInstance decLit1
instance decLits : DecidableEq (List LitD) := @instDecidableEqList LitD decLit
instance decRule3 : DecidableEq (Tm × List LitD) := @instDecidableEqProd Tm (List LitD) inferInstance decLits
instance decRule2 : DecidableEq (List Tm × Tm × List LitD) := @instDecidableEqProd (List Tm) (Tm × List LitD) inferInstance decRule3
instance decRule1 : DecidableEq (ByteArray × List Tm × Tm × List LitD) := @instDecidableEqProd ByteArray (List Tm × Tm × List LitD) inferInstance decRule2
instance decRule : DecidableEq RuleD := @instDecidableEqProd Tm (ByteArray × List Tm × Tm × List LitD) inferInstance decRule1
instance decRules : DecidableEq (List RuleD) := @instDecidableEqList RuleD decRule
def tms (l : Rows) : List Tm := l.map fun r => tmAt r 0
def litD (l : Row) : LitD := (tmAt l 0, Row.S l 4, tms (Row.R l 5), tmAt l 6)
def ruleD (r : Row) : RuleD := (tmAt r 0, Row.S r 4, tms (Row.R r 5), tmAt r 6, (Row.R r 10).map litD)
def sameT (a b : Tm) : Bool := a.1 == b.1 && (a.2.1 == b.2.1 && (a.2.2.1 == b.2.2.1 && (a.2.2.2 == b.2.2.2 && true)))
theorem sameT_eq (a b : Tm) : sameT a b = decide (a = b) := by
  obtain ⟨a1, a2, a3, a4⟩ := a
  obtain ⟨b1, b2, b3, b4⟩ := b
  have h : sameT (a1, a2, a3, a4) (b1, b2, b3, b4) = true ↔ (a1, a2, a3, a4) = (b1, b2, b3, b4) := by
    unfold sameT
    simp only [Bool.and_true, Bool.and_eq_true, beq_iff_eq, Prod.mk.injEq]
  cases hs : sameT (a1, a2, a3, a4) (b1, b2, b3, b4) with
  | true => exact (decide_eq_true (h.1 hs)).symm
  | false => exact (decide_eq_false (fun e => by rw [h.2 e] at hs; cases hs)).symm
theorem dec_cons {α : Type} [DecidableEq α] (a b : α) (l m : List α) : decide (a :: l = b :: m) = (decide (a = b) && decide (l = m)) := by
  by_cases h1 : a = b <;> by_cases h2 : l = m <;> simp [h1, h2]
theorem tms_len (l : Rows) : (tms l).length = l.length := List.length_map ..
theorem ne_len (a b : Nat) : ((a : Int) != (b : Int)) = !decide (a = b) := by
  by_cases h : a = b
  · subst h; simp
  · have : ¬ (a : Int) = (b : Int) := by omega
    simp [bne, h, this]
theorem Terms_ql {n : Nat} {b0 b2 : Bool} {r r3 : Rows} (hb : r.length < big) (he : r.length = r3.length) : ∀ k j : Nat, j + k = r.length → ∀ i, k < i → ref05_Terms_l4 n b0 r b2 r3 i (j : Int) = some (decide (tms (r.drop j) = tms (r3.drop j)), ()) := by
  intro k
  induction k with
  | zero =>
    intro j hj i hi
    obtain ⟨i, rfl⟩ : ∃ m, i = m + 1 := ⟨i - 1, by omega⟩
    rw [ref05_Terms_s4, List.drop_eq_nil_of_le (by omega), List.drop_eq_nil_of_le (by omega)]
    have h1 : ¬ (j : Int) < (r.length : Int) := by omega
    simp only [h1, decide_false, cond_false, decide_true]
  | succ k ih =>
    intro j hj i hi
    obtain ⟨i, rfl⟩ : ∃ m, i = m + 1 := ⟨i - 1, by omega⟩
    have hlt : j < r.length := by omega
    have hlt3 : j < r3.length := by omega
    have h1 : (j : Int) < (r.length : Int) := by omega
    have h3 : (j : Int) < (r3.length : Int) := by omega
    have h2 : (0 : Int) ≤ (j : Int) := by omega
    rw [ref05_Terms_s4, List.drop_eq_getElem_cons hlt, List.drop_eq_getElem_cons hlt3, wrap_succ (show j < big by omega)]
    simp only [h1, h2, h3, if_true, decide_true, cond_true, Int.toNat_natCast, getD_get hlt, getD_get hlt3, tms, List.map_cons, dec_cons]
    rw [← sameT_eq]
    show (bif !sameT (tmAt r[j] 0) (tmAt r3[j] 0) then _ else _) = _
    cases hs : sameT (tmAt r[j] 0) (tmAt r3[j] 0) with
    | false => rfl
    | true => exact ih (j + 1) (by omega) i (by omega)
theorem Terms_qd {n : Nat} {b0 b2 : Bool} {r r3 : Rows} (hb : r.length < big) (hn : r.length < n) : ref05_Terms_v n b0 r b2 r3 = some (decide (tms r = tms r3), ()) := by
  rw [ref05_Terms_e, ne_len]
  by_cases h : r.length = r3.length
  · rw [decide_eq_true h]
    exact Terms_ql hb h r.length 0 (by omega) n hn
  · have : ¬ tms r = tms r3 := fun e => h (by rw [← tms_len, ← tms_len r3, e])
    rw [decide_eq_false h, decide_eq_false this]; rfl
structure Small (n : Nat) (l : Rows) : Prop where
  len : l.length < big ∧ l.length < n
  in_ : ∀ r ∈ l, (Row.R r 5).length < big ∧ (Row.R r 5).length < n
section
variable {n : Nat} {s0 : ByteArray} {b1 : Bool} {j2 : Int} {s3 s4 : ByteArray} {b5 : Bool} {r6 : Rows} {s7 : ByteArray} {b8 : Bool} {j9 : Int} {s10 : ByteArray} {b11 : Bool} {r12 : Rows}
variable {s13 : ByteArray} {b14 : Bool} {j15 : Int} {s16 s17 : ByteArray} {b18 : Bool} {r19 : Rows} {s20 : ByteArray} {b21 : Bool} {j22 : Int} {s23 : ByteArray} {b24 : Bool} {r25 : Rows}
theorem litD_dec (a b : Row) : decide (litD a = litD b) = (sameT (tmAt a 0) (tmAt b 0) && (Row.S a 4 == Row.S b 4 && (sameT (tmAt a 6) (tmAt b 6) && decide (tms (Row.R a 5) = tms (Row.R b 5))))) := by
  rw [sameT_eq, sameT_eq]
  unfold litD
  have : (Row.S a 4 == Row.S b 4) = decide (Row.S a 4 = Row.S b 4) := by
    by_cases h : Row.S a 4 = Row.S b 4 <;> simp [h]
  rw [this]
  by_cases h1 : tmAt a 0 = tmAt b 0 <;> by_cases h2 : Row.S a 4 = Row.S b 4 <;> by_cases h3 : tmAt a 6 = tmAt b 6 <;> by_cases h4 : tms (Row.R a 5) = tms (Row.R b 5) <;> simp [h1, h2, h3, h4]
theorem SameRule_ql (hb : Small n r12) (he : r12.length = r25.length) : ∀ k j : Nat, j + k = r12.length → ∀ i, k < i →
    ref05_SameRule_l4 n s0 b1 j2 s3 s4 b5 r6 s7 b8 j9 s10 b11 r12 s13 b14 j15 s16 s17 b18 r19 s20 b21 j22 s23 b24 r25 i (j : Int) = some (decide ((r12.drop j).map litD = (r25.drop j).map litD), ()) := by
  intro k
  induction k with
  | zero =>
    intro j hj i hi
    obtain ⟨i, rfl⟩ : ∃ m, i = m + 1 := ⟨i - 1, by omega⟩
    rw [ref05_SameRule_s4, List.drop_eq_nil_of_le (by omega), List.drop_eq_nil_of_le (by omega)]
    have h1 : ¬ (j : Int) < (r12.length : Int) := by omega
    simp only [h1, decide_false, cond_false, decide_true]
  | succ k ih =>
    intro j hj i hi
    obtain ⟨i, rfl⟩ : ∃ m, i = m + 1 := ⟨i - 1, by omega⟩
    have hlt : j < r12.length := by omega
    have hlt3 : j < r25.length := by omega
    have h1 : (j : Int) < (r12.length : Int) := by omega
    have h3 : (j : Int) < (r25.length : Int) := by omega
    have h2 : (0 : Int) ≤ (j : Int) := by omega
    have hin := hb.in_ _ (List.getElem_mem hlt)
    rw [ref05_SameRule_s4, List.drop_eq_getElem_cons hlt, List.drop_eq_getElem_cons hlt3, wrap_succ (show j < big by have := hb.len; omega)]
    simp only [h1, h2, h3, if_true, decide_true, cond_true, Int.toNat_natCast, getD_get hlt, getD_get hlt3, List.map_cons, dec_cons, Terms_qd hin.1 hin.2, obind_some]
    rw [litD_dec]
    show (bif !sameT (tmAt r12[j] 0) (tmAt r25[j] 0) then _ else bif !(Row.S r12[j] 4 == Row.S r25[j] 4) then _ else bif !sameT (tmAt r12[j] 6) (tmAt r25[j] 6) then _ else _) = _
    cases sameT (tmAt r12[j] 0) (tmAt r25[j] 0) with
    | false => rfl
    | true =>
    cases Row.S r12[j] 4 == Row.S r25[j] 4 with
    | false => rfl
    | true =>
    cases sameT (tmAt r12[j] 6) (tmAt r25[j] 6) with
    | false => rfl
    | true =>
    cases decide (tms (Row.R r12[j] 5) = tms (Row.R r25[j] 5)) with
    | false => rfl
    | true => exact ih (j + 1) (by omega) i (by omega)
end
theorem ruleD_dec (a b : Row) : decide (ruleD a = ruleD b) = (sameT (tmAt a 0) (tmAt b 0) && (Row.S a 4 == Row.S b 4 && (sameT (tmAt a 6) (tmAt b 6) && (decide (tms (Row.R a 5) = tms (Row.R b 5)) && decide ((Row.R a 10).map litD = (Row.R b 10).map litD))))) := by
  rw [sameT_eq, sameT_eq]
  unfold ruleD
  have : (Row.S a 4 == Row.S b 4) = decide (Row.S a 4 = Row.S b 4) := by
    by_cases h : Row.S a 4 = Row.S b 4 <;> simp [h]
  rw [this]
  by_cases h1 : tmAt a 0 = tmAt b 0 <;> by_cases h2 : Row.S a 4 = Row.S b 4 <;> by_cases h3 : tmAt a 6 = tmAt b 6 <;> by_cases h4 : tms (Row.R a 5) = tms (Row.R b 5) <;> by_cases h5 : (Row.R a 10).map litD = (Row.R b 10).map litD <;> simp [h1, h2, h3, h4, h5]
structure Small2 (n : Nat) (r : Row) : Prop where
  a : (Row.R r 5).length < big ∧ (Row.R r 5).length < n
  b : Small n (Row.R r 10)
theorem SameRule_qd {n : Nat} {a b : Row} (h : Small2 n a) : ref05_SameRule_v n (Row.S a 0) (Row.B a 1) (Row.I a 2) (Row.S a 3) (Row.S a 4) (Row.N a 5) (Row.R a 5) (Row.S a 6) (Row.B a 7) (Row.I a 8) (Row.S a 9) (Row.N a 10) (Row.R a 10)
    (Row.S b 0) (Row.B b 1) (Row.I b 2) (Row.S b 3) (Row.S b 4) (Row.N b 5) (Row.R b 5) (Row.S b 6) (Row.B b 7) (Row.I b 8) (Row.S b 9) (Row.N b 10) (Row.R b 10) = some (decide (ruleD a = ruleD b), ()) := by
  rw [ref05_SameRule_e, ruleD_dec, ne_len, Terms_qd h.a.1 h.a.2]
  simp only [obind_some]
  show (bif !sameT (tmAt a 0) (tmAt b 0) then _ else bif !(Row.S a 4 == Row.S b 4) then _ else bif !sameT (tmAt a 6) (tmAt b 6) then _ else _) = _
  cases sameT (tmAt a 0) (tmAt b 0) with
  | false => rfl
  | true =>
  cases Row.S a 4 == Row.S b 4 with
  | false => rfl
  | true =>
  cases sameT (tmAt a 6) (tmAt b 6) with
  | false => rfl
  | true =>
  cases decide (tms (Row.R a 5) = tms (Row.R b 5)) with
  | false => rfl
  | true =>
  simp only [Bool.not_true, cond_false, Bool.true_and]
  by_cases hl : (Row.R a 10).length = (Row.R b 10).length
  · rw [decide_eq_true hl]
    exact SameRule_ql h.b hl (Row.R a 10).length 0 (by omega) n h.b.len.2
  · have : ¬ (Row.R a 10).map litD = (Row.R b 10).map litD := fun e => hl (by have := congrArg List.length e; simpa using this)
    rw [decide_eq_false hl, decide_eq_false this]; rfl
theorem Like_ql {n : Nat} {b0 b2 : Bool} {r r3 : Rows} (hb : r.length < big) (hs : ∀ a ∈ r, Small2 n a) (he : r.length = r3.length) : ∀ k j : Nat, j + k = r.length → ∀ i, k < i → ref05_Like_l4 n b0 r b2 r3 i (j : Int) = some (decide ((r.drop j).map ruleD = (r3.drop j).map ruleD), ()) := by
  intro k
  induction k with
  | zero =>
    intro j hj i hi
    obtain ⟨i, rfl⟩ : ∃ m, i = m + 1 := ⟨i - 1, by omega⟩
    rw [ref05_Like_s4, List.drop_eq_nil_of_le (by omega), List.drop_eq_nil_of_le (by omega)]
    have h1 : ¬ (j : Int) < (r.length : Int) := by omega
    simp only [h1, decide_false, cond_false, decide_true]
  | succ k ih =>
    intro j hj i hi
    obtain ⟨i, rfl⟩ : ∃ m, i = m + 1 := ⟨i - 1, by omega⟩
    have hlt : j < r.length := by omega
    have hlt3 : j < r3.length := by omega
    have h1 : (j : Int) < (r.length : Int) := by omega
    have h3 : (j : Int) < (r3.length : Int) := by omega
    have h2 : (0 : Int) ≤ (j : Int) := by omega
    rw [ref05_Like_s4, List.drop_eq_getElem_cons hlt, List.drop_eq_getElem_cons hlt3, wrap_succ (show j < big by omega)]
    simp only [h1, h2, h3, if_true, decide_true, cond_true, Int.toNat_natCast, getD_get hlt, getD_get hlt3, List.map_cons, dec_cons, SameRule_qd (b := r3[j]) (hs _ (List.getElem_mem hlt)), obind_some]
    cases hd : decide (ruleD r[j] = ruleD r3[j]) with
    | false => rfl
    | true => exact ih (j + 1) (by omega) i (by omega)
theorem Like_qd {n : Nat} {b0 b2 : Bool} {r r3 : Rows} (hb : r.length < big) (hn : r.length < n) (hs : ∀ a ∈ r, Small2 n a) : ref05_Like_v n b0 r b2 r3 = some (decide (r.map ruleD = r3.map ruleD), ()) := by
  rw [ref05_Like_e, ne_len]
  by_cases h : r.length = r3.length
  · rw [decide_eq_true h]
    exact Like_ql hb hs h r.length 0 (by omega) n hn
  · have : ¬ r.map ruleD = r3.map ruleD := fun e => h (by have := congrArg List.length e; simpa using this)
    rw [decide_eq_false h, decide_eq_false this]; rfl
end Go.Den
/- Rules shown: what the code prints, step by step; terms. -/
namespace Go.Den
open Go.Proofs
def nilT (t : Tm) : Bool := t.1 == ByteArray.mk #[] && (t.2.1 == false && (t.2.2.1 == 0 && (t.2.2.2 == ByteArray.mk #[] && true)))
/-- a term as a text, or nothing -/
def term1 (t : Tm) : Option ByteArray := bif (termS t.1 t.2.1 t.2.2.1 t.2.2.2).1.2.1 == 0 then some (termS t.1 t.2.1 t.2.2.1 t.2.2.2).1.1 else none
def tx (t : Tm) : ByteArray := (term1 t).getD noB
theorem termS_eq (t : Tm) : termS t.1 t.2.1 t.2.2.1 t.2.2.2 = match term1 t with | some s => ((s, (0, ())), ()) | none => ((noB, (100, ())), ()) := by
  obtain ⟨s0, b1, j2, s3⟩ := t
  unfold term1 termS shownS
  cases !s0 == noB <;> cases (b1 == false && (j2 == 0 && s3 == noB) && namedS isGreat s0) <;> cases b1 <;> cases s3 == noB <;> cases (j2 == 0 && (plainS s3 && (decide (1 ≤ s3.size) && decide (s3.size ≤ 32)))) <;> cases (namedS isSmall s3 && !keptS s3) <;> rfl
theorem itoa_size {j : Int} (hlo : -9223372036854775808 ≤ j) (hhi : j ≤ 9223372036854775807) : (ByteArray.mk (Go.Lib.itoa j).toArray).size ≤ 40 := by
  show (Go.Lib.itoa j).toArray.size ≤ 40
  rw [List.size_toArray]
  have hp : (10 : Nat) ^ 20 = 100000000000000000000 := by decide
  have h1 := nDigits_le 20 j.natAbs (by omega) (by omega)
  have h2 := nDigits_le 20 j.toNat (by omega) (by omega)
  unfold Go.Lib.itoa
  split
  · rw [List.length_cons, Go.Lib.decDigits_length]; omega
  · rw [Go.Lib.decDigits_length]; omega
theorem term1_size {t : Tm} (hlo : -9223372036854775808 ≤ t.2.2.1) (hhi : t.2.2.1 ≤ 9223372036854775807) {s : ByteArray} (h : term1 t = some s) : s.size ≤ 40 := by
  obtain ⟨s0, b1, j2, s3⟩ := t
  unfold term1 termS at h
  simp only at h hlo hhi
  cases h0 : !s0 == noB with
  | true =>
    rw [h0] at h
    simp only [cond_true] at h
    cases h1 : (b1 == false && (j2 == 0 && s3 == noB) && namedS isGreat s0) with
    | true =>
      rw [h1] at h
      simp only [cond_true, beq_self_eq_true] at h
      cases h
      unfold namedS at h1
      simp only [Bool.and_eq_true, decide_eq_true_eq] at h1
      omega
    | false => rw [h1] at h; cases h
  | false =>
    rw [h0] at h
    simp only [cond_false] at h
    cases b1 with
    | true =>
      simp only [cond_true] at h
      cases h1 : s3 == noB with
      | true =>
        rw [h1] at h
        cases h
        exact itoa_size hlo hhi
      | false => rw [h1] at h; cases h
    | false =>
      simp only [cond_false] at h
      cases h1 : (j2 == 0 && (plainS s3 && (decide (1 ≤ s3.size) && decide (s3.size ≤ 32)))) with
      | false => rw [h1] at h; cases h
      | true =>
        rw [h1] at h
        simp only [Bool.and_eq_true, decide_eq_true_eq] at h1
        simp only [cond_true, shownS] at h
        cases h2 : (namedS isSmall s3 && !keptS s3) with
        | true =>
          rw [h2] at h
          simp only [cond_true, beq_self_eq_true, Option.some.injEq] at h
          subst h; omega
        | false =>
          rw [h2] at h
          simp only [cond_false, cond_true, beq_self_eq_true, Option.some.injEq] at h
          subst h
          simp only [ByteArray.size_append]
          have e : (ByteArray.mk #[34]).size = 1 := rfl
          omega
theorem tx_size {t : Tm} (hlo : -9223372036854775808 ≤ t.2.2.1) (hhi : t.2.2.1 ≤ 9223372036854775807) : (tx t).size ≤ 40 := by
  unfold tx
  cases h : term1 t with
  | none => exact Nat.zero_le _
  | some s => exact term1_size hlo hhi h
/-- What is known of a term. -/
structure TmOk (n : Nat) (t : Tm) : Prop where
  lo : -9223372036854775808 ≤ t.2.2.1
  hi : t.2.2.1 ≤ 9223372036854775807
  s : t.2.2.2.size ≤ 140737488351232
  sn : t.2.2.2.size < n
theorem show_T {n : Nat} {t : Tm} (h : TmOk n t) (hn : 10000 < n) : show_Term_v n t.1 t.2.1 t.2.2.1 t.2.2.2 = some (match term1 t with | some s => ((s, (0, ())), ()) | none => ((noB, (100, ())), ())) := by
  rw [show_Term_q h.lo h.hi h.s h.sn hn, termS_eq]
theorem ref_T {n : Nat} {t : Tm} (h : TmOk n t) (hn : 10000 < n) : ref09_Term_v n t.1 t.2.1 t.2.2.1 t.2.2.2 = some (match term1 t with | some s => ((s, (0, ())), ()) | none => ((noB, (100, ())), ())) := by
  rw [ref_Term_q h.lo h.hi hn, termS_eq]
/-! bytes as rows -/
theorem byteRows_app (a b : ByteArray) : byteRows (a ++ b) = byteRows a ++ byteRows b := by
  unfold byteRows
  rw [ByteArray.data_append, Array.toList_append, List.map_append]
theorem byteRows_len (a : ByteArray) : (byteRows a).length = a.size := by
  unfold byteRows
  rw [List.length_map, Array.length_toList]; rfl
theorem bytesOf_byteRows (a : ByteArray) : bytesOf (byteRows a) = a := by
  unfold bytesOf byteRows
  rw [List.map_map]
  have : ∀ l : List UInt8, l.map ((fun r => UInt8.ofNat (Row.I r 0).toNat) ∘ fun b : UInt8 => [DV.val (Value.int IntKind.u8 (b.toNat : Int))]) = l := by
    intro l
    induction l with
    | nil => rfl
    | cons b l ih =>
      rw [List.map_cons, ih]
      congr 1
      show UInt8.ofNat (Int.toNat (b.toNat : Int)) = b
      rw [Int.toNat_natCast]; exact UInt8.ofNat_toNat
  rw [this, Array.toArray_toList]
theorem okBytes_byteRows (a : ByteArray) : okBytes (byteRows a) = true := by
  unfold byteRows
  generalize a.data.toList = l
  induction l with
  | nil => rfl
  | cons b l ih =>
    simp only [List.map_cons, okBytes, ih, Bool.and_true, Bool.and_eq_true, decide_eq_true_eq]
    have := UInt8.toNat_lt b
    omega
/-- A printer: whether its text is nil, the text, and whether something can't be shown. -/
@[reducible] def pst (nl : Bool) (t : ByteArray) (bad : Bool) : Unit × (Unit × (Bool × Rows) × Bool × Unit) × Unit := ((), (((), ((nl, byteRows t), (bad, ()))), ()))
theorem writes_q {n : Nat} {s t : ByteArray} {nl bad : Bool} (h : t.size + s.size ≤ 140737488355328) : strings_Builder_WriteString_v n s nl (byteRows t) bad = some (((s.size : Int), ((), ())), (((), ((nl && s.size == 0, byteRows (t ++ s)), (bad, ()))), ())) := by
  rw [strings_Builder_WriteString_e]
  unfold strings_Builder_copyCheck_v
  simp only [obind_some]
  rw [if_pos (by rw [byteRows_len]; omega), byteRows_app]
theorem writes_nilp {n : Nat} {s : ByteArray} {bad : Bool} (h : s.size ≤ 140737488355328) : strings_Builder_WriteString_nilp_v n s true [] bad = some (((s.size : Int), ((), ())), (((), ((s.size == 0, byteRows s), (bad, ()))), ())) := by
  rw [strings_Builder_WriteString_nilp_e]
  unfold strings_Builder_copyCheck_nilp_v
  simp only [obind_some]
  rw [if_pos (by simp; omega)]
  simp [appX]
theorem pterm_q {n : Nat} {ahead t : ByteArray} {a : Tm} {nl bad : Bool} (h : TmOk n a) (hn : 10000 < n) (hs : ahead.size ≤ 1000) (ht : t.size ≤ 10000000) :
    show_printer_term_v n ahead a.1 a.2.1 a.2.2.1 a.2.2.2 nl (byteRows t) bad = some (pst (nl && (ahead ++ tx a).size == 0) (t ++ (ahead ++ tx a)) (bad || (term1 a).isNone)) := by
  have hsz := tx_size h.lo h.hi
  have h2 : (ahead ++ tx a).size = ahead.size + (tx a).size := ByteArray.size_append ..
  rw [show_printer_term_e, show_T h hn]
  have hw : ∀ b, strings_Builder_WriteString_v n (ahead ++ tx a) nl (byteRows t) b = _ := fun b => writes_q (bad := b) (nl := nl) (n := n) (s := ahead ++ tx a) (t := t) (by omega)
  unfold tx at hw hsz h2 ⊢
  cases h1 : term1 a with
  | some s =>
    rw [h1] at hw hsz h2
    simp only [Option.getD_some] at hw hsz h2 ⊢
    simp only [obind_some, hw, show ahead.size + s.size < 4611686018427387904 by omega, if_true]
    cases bad <;> rfl
  | none =>
    rw [h1] at hw hsz h2
    simp only [Option.getD_none] at hw hsz h2 ⊢
    simp only [obind_some, hw, show ahead.size + noB.size < 4611686018427387904 by omega, if_true]
    cases bad <;> rfl
theorem pterm_nilp {n : Nat} {a : Tm} (h : TmOk n a) (hn : 10000 < n) : ∃ nl,
    show_printer_term_nilp_v n (ByteArray.mk #[]) a.1 a.2.1 a.2.2.1 a.2.2.2 true [] false = some (pst nl (noB ++ tx a) (term1 a).isNone) := by
  have hsz := tx_size h.lo h.hi
  have h2 : (noB ++ tx a).size = noB.size + (tx a).size := ByteArray.size_append ..
  have h3 : noB.size = 0 := rfl
  rw [show_printer_term_nilp_e, show_T h hn]
  have hw : ∀ b, strings_Builder_WriteString_nilp_v n (noB ++ tx a) true [] b = _ := fun b => writes_nilp (bad := b) (n := n) (s := noB ++ tx a) (by omega)
  unfold tx at hw hsz h2 ⊢
  cases h1 : term1 a with
  | some s =>
    rw [h1] at hw hsz h2
    simp only [Option.getD_some] at hw hsz h2 ⊢
    simp only [obind_some, cond_false]
    rw [if_pos (by rfl), if_pos (show noB.size + s.size < 4611686018427387904 by omega)]
    have hw' : ∀ b, strings_Builder_WriteString_nilp_v n (ByteArray.mk #[] ++ s) true [] b = _ := hw
    rw [hw']
    exact ⟨_, rfl⟩
  | none =>
    rw [h1] at hw hsz h2
    simp only [Option.getD_none] at hw hsz h2 ⊢
    simp only [obind_some, cond_false]
    rw [if_pos (by rfl), if_pos (show noB.size + noB.size < 4611686018427387904 by omega)]
    have hw' : ∀ b, strings_Builder_WriteString_nilp_v n (ByteArray.mk #[] ++ noB) true [] b = _ := hw
    rw [hw']
    exact ⟨_, rfl⟩
/-- a term that may be none -/
def pmaybe (ahead : ByteArray) (a : Tm) (behind : ByteArray) (t : ByteArray) (bad : Bool) : ByteArray × Bool :=
  bif nilT a then (t, bad) else (t ++ (ahead ++ tx a) ++ behind, bad || (term1 a).isNone)
theorem pmaybe_size {n : Nat} {ahead behind t : ByteArray} {a : Tm} {bad : Bool} (h : TmOk n a) (hs : ahead.size ≤ 10) (hb : behind.size ≤ 10) : (pmaybe ahead a behind t bad).1.size ≤ t.size + 60 := by
  have hsz := tx_size h.lo h.hi
  unfold pmaybe
  cases nilT a with
  | true => show t.size ≤ _; omega
  | false =>
    show (t ++ (ahead ++ tx a) ++ behind).size ≤ _
    simp only [ByteArray.size_append]; omega
theorem pmaybe_q {n : Nat} {ahead behind t : ByteArray} {a : Tm} {nl bad : Bool} (h : TmOk n a) (hn : 10000 < n) (hs : ahead.size ≤ 10) (hb : behind.size ≤ 10) (ht : t.size ≤ 1000000) :
    ∃ nl', show_printer_maybe_v n ahead a.1 a.2.1 a.2.2.1 a.2.2.2 behind nl (byteRows t) bad = some (pst nl' (pmaybe ahead a behind t bad).1 (pmaybe ahead a behind t bad).2) := by
  have hsz := tx_size h.lo h.hi
  have h2 : (ahead ++ tx a).size = ahead.size + (tx a).size := ByteArray.size_append ..
  have h3 : (t ++ (ahead ++ tx a)).size = t.size + (ahead ++ tx a).size := ByteArray.size_append ..
  rw [show_printer_maybe_e]
  unfold pmaybe
  have e : (a.1 == ByteArray.mk #[] && (a.2.1 == false && (a.2.2.1 == 0 && (a.2.2.2 == ByteArray.mk #[] && true)))) = nilT a := rfl
  rw [e]
  cases hn0 : nilT a with
  | true => simp only [Bool.not_true, cond_false, cond_true]; exact ⟨nl, rfl⟩
  | false =>
    simp only [Bool.not_false, cond_true, cond_false]
    rw [pterm_q h hn (by omega) (by omega)]
    simp only [obind_some]
    rw [writes_q (by omega)]
    exact ⟨_, rfl⟩
end Go.Den
/- Rules shown: atoms, rules. -/
namespace Go.Den
open Go.Proofs
@[reducible] def comma : ByteArray := ByteArray.mk #[44, 32]
@[reducible] def wordS (s : ByteArray) : Bool := namedS isSmall s && !keptS s
/-! what the code prints -/
def pargs : Nat → Rows → ByteArray → Bool → ByteArray × Bool
  | _, [], t, bad => (t ++ ByteArray.mk #[41], bad)
  | q, r :: l, t, bad => pargs (q + 1) l (bif bad then (bif decide (0 < q) then t ++ comma else t) else (bif decide (0 < q) then t ++ comma else t) ++ (noB ++ tx (tmAt r 0))) (bif bad then true else (term1 (tmAt r 0)).isNone)
def patom (pred : ByteArray) (args : Rows) (t : ByteArray) (bad : Bool) : ByteArray × Bool :=
  pargs 0 args (t ++ (pred ++ ByteArray.mk #[40])) (bad || (!wordS pred || decide (args.length > 4)))
structure ArgsOk (n : Nat) (l : Rows) : Prop where
  len : l.length < n
  tm : ∀ r ∈ l, TmOk n (tmAt r 0)
theorem pargs_size {n : Nat} : ∀ (l : Rows) (q : Nat) (t : ByteArray) (bad : Bool), (∀ r ∈ l, TmOk n (tmAt r 0)) → (pargs q l t bad).1.size ≤ t.size + 50 * l.length + 1
  | [], q, t, bad, _ => by
    show (t ++ ByteArray.mk #[41]).size ≤ _
    rw [ByteArray.size_append]
    have : (ByteArray.mk #[41]).size = 1 := rfl
    simp only [List.length_nil]; omega
  | r :: l, q, t, bad, h => by
    have h0 := h r List.mem_cons_self
    have hsz := tx_size h0.lo h0.hi
    have e2 : comma.size = 2 := rfl
    have e0 : noB.size = 0 := rfl
    unfold pargs
    have ih := fun t' b' => pargs_size (n := n) l (q + 1) t' b' (fun r hr => h r (List.mem_cons_of_mem _ hr))
    refine Nat.le_trans (ih _ _) ?_
    simp only [List.length_cons]
    cases bad <;> cases decide (0 < q) <;> simp only [cond_true, cond_false, ByteArray.size_append] <;> omega
theorem patom_loop {n : Nat} {s0 : ByteArray} {b1 : Bool} {r2 : Rows} {b3 : Bool} {r4 : Rows} {b5 : Bool} (hn : 10000 < n) (hr : ∀ r ∈ r2, TmOk n (tmAt r 0)) (hl : r2.length ≤ 1000) :
    ∀ k q : Nat, q + k = r2.length → ∀ f nl t bad, k < f → t.size ≤ 1000000 + 50 * q → ∃ nl', show_printer_atom_l3 n s0 b1 r2 b3 r4 b5 f nl (byteRows t) bad (q : Int) = some (pst nl' (pargs q (r2.drop q) t bad).1 (pargs q (r2.drop q) t bad).2) := by
  intro k
  induction k with
  | zero =>
    intro q hq f nl t bad hf ht
    obtain ⟨f, rfl⟩ : ∃ z, f = z + 1 := ⟨f - 1, by omega⟩
    rw [show_printer_atom_s3, List.drop_eq_nil_of_le (by omega)]
    have h1 : ¬ (q : Int) < (r2.length : Int) := by omega
    have e1 : (ByteArray.mk #[41]).size = 1 := rfl
    simp only [h1, decide_false, cond_false, pargs]
    rw [writes_q (s := ByteArray.mk #[41]) (t := t) (by omega)]
    exact ⟨_, rfl⟩
  | succ k ih =>
    intro q hq f nl t bad hf ht
    obtain ⟨f, rfl⟩ : ∃ z, f = z + 1 := ⟨f - 1, by omega⟩
    have hlt : q < r2.length := by omega
    have h1 : (q : Int) < (r2.length : Int) := by omega
    have h2 : (0 : Int) ≤ (q : Int) := by omega
    have h0 := hr _ (List.getElem_mem hlt)
    have hsz := tx_size h0.lo h0.hi
    have e2 : comma.size = 2 := rfl
    have e0 : noB.size = 0 := rfl
    rw [show_printer_atom_s3, List.drop_eq_getElem_cons hlt, wrap_succ (show q < big by unfold big; omega)]
    simp only [h1, h2, if_true, decide_true, cond_true, Int.toNat_natCast, getD_get hlt, pargs]
    have hdec : decide ((q : Int) > 0) = decide (0 < q) := decide_eq_decide.2 (by omega)
    rw [hdec]
    have hT : ∀ nl' t' bad', t'.size ≤ 1000000 + 50 * q + 2 → show_printer_term_v n (ByteArray.mk #[]) (Row.S r2[q] 0) (Row.B r2[q] 1) (Row.I r2[q] 2) (Row.S r2[q] 3) nl' (byteRows t') bad' = some (pst (nl' && (noB ++ tx (tmAt r2[q] 0)).size == 0) (t' ++ (noB ++ tx (tmAt r2[q] 0))) (bad' || (term1 (tmAt r2[q] 0)).isNone)) := fun nl' t' bad' hh => by
      have := pterm_q (ahead := noB) (t := t') (nl := nl') (bad := bad') h0 hn (by omega) (by omega)
      exact this
    cases hq0 : decide (0 < q) with
    | true =>
      simp only [cond_true]
      rw [writes_q (s := comma) (t := t) (by omega)]
      simp only [obind_some]
      cases bad with
      | true =>
        simp only [Bool.not_true, cond_false]
        exact ih (q + 1) (by omega) f _ (t ++ comma) true (by omega) (by rw [ByteArray.size_append]; omega)
      | false =>
        simp only [Bool.not_false, cond_true, cond_false]
        rw [hT _ (t ++ comma) false (by rw [ByteArray.size_append]; omega)]
        simp only [obind_some, Bool.false_or]
        exact ih (q + 1) (by omega) f _ (t ++ comma ++ (noB ++ tx (tmAt r2[q] 0))) _ (by omega) (by simp only [ByteArray.size_append]; omega)
    | false =>
      simp only [cond_false]
      cases bad with
      | true =>
        simp only [Bool.not_true, cond_false]
        exact ih (q + 1) (by omega) f _ t true (by omega) (by omega)
      | false =>
        simp only [Bool.not_false, cond_true]
        rw [hT _ t false (by omega)]
        simp only [obind_some, Bool.false_or]
        exact ih (q + 1) (by omega) f _ (t ++ (noB ++ tx (tmAt r2[q] 0))) _ (by omega) (by simp only [ByteArray.size_append]; omega)
theorem patom_q {n : Nat} {pred : ByteArray} {anl : Bool} {args : Rows} {t : ByteArray} {nl bad : Bool} (hn : 10000 < n) (hp : pred.size ≤ 5000) (hr : ∀ r ∈ args, TmOk n (tmAt r 0)) (hl : args.length ≤ 1000) (ht : t.size ≤ 900000) :
    ∃ nl', show_printer_atom_v n pred anl args nl (byteRows t) bad = some (pst nl' (patom pred args t bad).1 (patom pred args t bad).2) := by
  have e1 : (ByteArray.mk #[40]).size = 1 := rfl
  have e2 : (pred ++ ByteArray.mk #[40]).size = pred.size + (ByteArray.mk #[40]).size := ByteArray.size_append ..
  have e3 : pred.size + 1 < 4611686018427387904 := by omega
  have hw : ∀ b, strings_Builder_WriteString_v n (pred ++ ByteArray.mk #[40]) nl (byteRows t) b = _ := fun b => writes_q (bad := b) (nl := nl) (n := n) (s := pred ++ ByteArray.mk #[40]) (t := t) (by omega)
  have hdec : decide ((args.length : Int) > 4) = decide (args.length > 4) := decide_eq_decide.2 (by omega)
  have hlp : ∀ nl' bad', ∃ nl'', show_printer_atom_l3 n pred anl args nl (byteRows t) bad n nl' (byteRows (t ++ (pred ++ ByteArray.mk #[40]))) bad' 0 = some (pst nl'' (pargs 0 args (t ++ (pred ++ ByteArray.mk #[40])) bad').1 (pargs 0 args (t ++ (pred ++ ByteArray.mk #[40])) bad').2) := fun nl' bad' => by
    have := patom_loop (n := n) (s0 := pred) (b1 := anl) (r2 := args) (b3 := nl) (r4 := byteRows t) (b5 := bad) hn hr hl args.length 0 (by omega) n nl' (t ++ (pred ++ ByteArray.mk #[40])) bad' (by omega) (by simp only [ByteArray.size_append]; omega)
    exact this
  rw [show_printer_atom_e]
  unfold patom
  cases bad with
  | true =>
    simp only [cond_true, e3, if_true, hw, obind_some, Bool.true_or]
    exact hlp _ true
  | false =>
    simp only [cond_false, show_word_q hn, obind_some, e3, if_true, hw, Bool.false_or, hdec]
    show ∃ nl', (bif !wordS pred then _ else _) = _
    cases hw2 : wordS pred with
    | false => simp only [Bool.not_false, cond_true, Bool.true_or]; exact hlp _ true
    | true => simp only [Bool.not_true, cond_false, Bool.false_or]; exact hlp _ _
end Go.Den
/- Rules shown: the code's rules. -/
namespace Go.Den
open Go.Proofs
@[reducible] def bSays : ByteArray := ByteArray.mk #[32, 115, 97, 121, 115, 32]
@[reducible] def bAt : ByteArray := ByteArray.mk #[32, 97, 116, 32]
@[reducible] def bTo : ByteArray := ByteArray.mk #[32, 116, 111, 32]
@[reducible] def bColon : ByteArray := ByteArray.mk #[58, 32]
@[reducible] def bIf : ByteArray := ByteArray.mk #[32, 58, 45, 32]
structure LitOk (n : Nat) (l : Row) : Prop where
  by_ : TmOk n (tmAt l 0)
  pred : (Row.S l 4).size ≤ 5000
  len : (Row.R l 5).length ≤ 1000
  args : ∀ r ∈ Row.R l 5, TmOk n (tmAt r 0)
  at_ : TmOk n (tmAt l 6)
structure RuleOk (n : Nat) (r : Row) : Prop where
  home : TmOk n (tmAt r 0)
  pred : (Row.S r 4).size ≤ 5000
  len : (Row.R r 5).length ≤ 1000
  args : ∀ a ∈ Row.R r 5, TmOk n (tmAt a 0)
  to_ : TmOk n (tmAt r 6)
  blen : (Row.R r 10).length ≤ 1000
  body : ∀ l ∈ Row.R r 10, LitOk n l
theorem patom_size {n : Nat} {pred : ByteArray} {args : Rows} {t : ByteArray} {bad : Bool} (hr : ∀ r ∈ args, TmOk n (tmAt r 0)) : (patom pred args t bad).1.size ≤ t.size + pred.size + 50 * args.length + 2 := by
  unfold patom
  refine Nat.le_trans (pargs_size args 0 _ _ hr) ?_
  have e1 : (ByteArray.mk #[40]).size = 1 := rfl
  simp only [ByteArray.size_append]; omega
def plit (l : Row) (t : ByteArray) (bad : Bool) : ByteArray × Bool :=
  pmaybe bAt (tmAt l 6) noB (patom (Row.S l 4) (Row.R l 5) (pmaybe noB (tmAt l 0) bSays t bad).1 (pmaybe noB (tmAt l 0) bSays t bad).2).1 (patom (Row.S l 4) (Row.R l 5) (pmaybe noB (tmAt l 0) bSays t bad).1 (pmaybe noB (tmAt l 0) bSays t bad).2).2
theorem plit_size {n : Nat} {l : Row} {t : ByteArray} {bad : Bool} (h : LitOk n l) (ha : (Row.R l 5).length ≤ 4) : (plit l t bad).1.size ≤ t.size + 6000 := by
  unfold plit
  have a1 := pmaybe_size (n := n) (ahead := noB) (behind := bSays) (t := t) (bad := bad) h.by_ (by decide) (by decide)
  have a2 := patom_size (pred := Row.S l 4) (args := Row.R l 5) (t := (pmaybe noB (tmAt l 0) bSays t bad).1) (bad := (pmaybe noB (tmAt l 0) bSays t bad).2) h.args
  have a3 := pmaybe_size (n := n) (ahead := bAt) (behind := noB) (t := (patom (Row.S l 4) (Row.R l 5) (pmaybe noB (tmAt l 0) bSays t bad).1 (pmaybe noB (tmAt l 0) bSays t bad).2).1) (bad := (patom (Row.S l 4) (Row.R l 5) (pmaybe noB (tmAt l 0) bSays t bad).1 (pmaybe noB (tmAt l 0) bSays t bad).2).2) h.at_ (by decide) (by decide)
  have := h.pred
  omega
theorem pmaybe_ge {ahead behind t : ByteArray} {a : Tm} {bad : Bool} : t.size ≤ (pmaybe ahead a behind t bad).1.size := by
  unfold pmaybe
  cases nilT a with
  | true => exact Nat.le_refl _
  | false => simp only [cond_false, ByteArray.size_append]; omega
theorem pargs_ge : ∀ (l : Rows) (q : Nat) (t : ByteArray) (bad : Bool), t.size ≤ (pargs q l t bad).1.size
  | [], q, t, bad => by
    show _ ≤ (t ++ ByteArray.mk #[41]).size
    rw [ByteArray.size_append]; omega
  | r :: l, q, t, bad => by
    unfold pargs
    refine Nat.le_trans ?_ (pargs_ge l (q + 1) _ _)
    cases bad <;> cases decide (0 < q) <;> simp only [cond_true, cond_false, ByteArray.size_append] <;> omega
theorem patom_ge {pred : ByteArray} {args : Rows} {t : ByteArray} {bad : Bool} : t.size ≤ (patom pred args t bad).1.size := by
  unfold patom
  refine Nat.le_trans ?_ (pargs_ge args 0 _ _)
  rw [ByteArray.size_append]; omega
theorem plit_ge {l : Row} {t : ByteArray} {bad : Bool} : t.size ≤ (plit l t bad).1.size := by
  unfold plit
  exact Nat.le_trans pmaybe_ge (Nat.le_trans patom_ge pmaybe_ge)
def pbody : Nat → Rows → ByteArray → Bool → Option ByteArray
  | _, [], t, bad => bif bad then none else some (t ++ ByteArray.mk #[46])
  | q, l :: ls, t, bad => bif bad then none else bif decide ((Row.R l 5).length > 4) then none else
    pbody (q + 1) ls (plit l (bif decide (0 < q) then t ++ comma else t) bad).1 (plit l (bif decide (0 < q) then t ++ comma else t) bad).2
def outS (o : Option ByteArray) : (ByteArray × Int × Unit) × Unit := match o with | some s => ((s, (0, ())), ()) | none => ((noB, (100, ())), ())
theorem string_q {n : Nat} {nl bad : Bool} {t : ByteArray} (h : 1 ≤ t.size) : strings_Builder_String_v n nl (byteRows t) bad = some (t, (((), ((nl, byteRows t), (bad, ()))), ())) := by
  unfold strings_Builder_String_v
  have h1 : (byteRows t).isEmpty = false := by
    have := byteRows_len t
    cases hb : byteRows t with
    | nil => rw [hb] at this; simp at this; omega
    | cons a l => rfl
  rw [h1, okBytes_byteRows, bytesOf_byteRows]
  rfl
theorem plit_q {n : Nat} {l : Row} {t : ByteArray} {nl bad : Bool} (hn : 10000 < n) (h : LitOk n l) (ht : t.size ≤ 800000) (ha : (Row.R l 5).length ≤ 4) {R : Type} (k : Unit × (Unit × (Bool × Rows) × Bool × Unit) × Unit → Option R) : ∃ nl',
    (obind (show_printer_maybe_v n (ByteArray.mk #[]) (Row.S l 0) (Row.B l 1) (Row.I l 2) (Row.S l 3) bSays nl (byteRows t) bad) fun y =>
     obind (show_printer_atom_v n (Row.S l 4) (Row.N l 5) (Row.R l 5) y.snd.fst.snd.fst.fst y.snd.fst.snd.fst.snd y.snd.fst.snd.snd.fst) fun z =>
     obind (show_printer_maybe_v n bAt (Row.S l 6) (Row.B l 7) (Row.I l 8) (Row.S l 9) (ByteArray.mk #[]) z.snd.fst.snd.fst.fst z.snd.fst.snd.fst.snd z.snd.fst.snd.snd.fst) k) = k (pst nl' (plit l t bad).1 (plit l t bad).2) := by
  have a1 := pmaybe_size (n := n) (ahead := noB) (behind := bSays) (t := t) (bad := bad) h.by_ (by decide) (by decide)
  have a2 := patom_size (pred := Row.S l 4) (args := Row.R l 5) (t := (pmaybe noB (tmAt l 0) bSays t bad).1) (bad := (pmaybe noB (tmAt l 0) bSays t bad).2) h.args
  have a3 := h.pred
  obtain ⟨n1, h1⟩ := pmaybe_q (n := n) (ahead := noB) (behind := bSays) (t := t) (nl := nl) (bad := bad) h.by_ hn (by decide) (by decide) (by omega)
  obtain ⟨n2, h2⟩ := patom_q (n := n) (pred := Row.S l 4) (anl := Row.N l 5) (args := Row.R l 5) (t := (pmaybe noB (tmAt l 0) bSays t bad).1) (nl := n1) (bad := (pmaybe noB (tmAt l 0) bSays t bad).2) hn h.pred h.args h.len (by omega)
  obtain ⟨n3, h3⟩ := pmaybe_q (n := n) (ahead := bAt) (behind := noB) (t := (patom (Row.S l 4) (Row.R l 5) (pmaybe noB (tmAt l 0) bSays t bad).1 (pmaybe noB (tmAt l 0) bSays t bad).2).1) (nl := n2) (bad := (patom (Row.S l 4) (Row.R l 5) (pmaybe noB (tmAt l 0) bSays t bad).1 (pmaybe noB (tmAt l 0) bSays t bad).2).2) h.at_ hn (by decide) (by decide) (by omega)
  have h1' : show_printer_maybe_v n (ByteArray.mk #[]) (Row.S l 0) (Row.B l 1) (Row.I l 2) (Row.S l 3) bSays nl (byteRows t) bad = _ := h1
  have h3' : show_printer_maybe_v n bAt (Row.S l 6) (Row.B l 7) (Row.I l 8) (Row.S l 9) (ByteArray.mk #[]) _ _ _ = _ := h3
  refine ⟨n3, ?_⟩
  rw [h1']
  simp only [obind_some]
  rw [h2]
  simp only [obind_some]
  rw [h3']
  rfl
section
variable {n : Nat} {s0 : ByteArray} {b1 : Bool} {j2 : Int} {s3 s4 : ByteArray} {b5 : Bool} {r6 : Rows} {s7 : ByteArray} {b8 : Bool} {j9 : Int} {s10 : ByteArray} {b11 : Bool} {r12 : Rows}
theorem pbody_q (hn : 10000 < n) (hr : ∀ l ∈ r12, LitOk n l) (hl : r12.length ≤ 10) : ∀ k q : Nat, q + k = r12.length → ∀ f nl t bad, k < f → 1 ≤ t.size → t.size ≤ 100000 + 10000 * q →
    show_Rule_l10 n s0 b1 j2 s3 s4 b5 r6 s7 b8 j9 s10 b11 r12 f nl (byteRows t) bad (q : Int) = some (outS (pbody q (r12.drop q) t bad)) := by
  intro k
  induction k with
  | zero =>
    intro q hq f nl t bad hf h0 ht
    obtain ⟨f, rfl⟩ : ∃ z, f = z + 1 := ⟨f - 1, by omega⟩
    rw [show_Rule_s10, List.drop_eq_nil_of_le (by omega)]
    have h1 : ¬ (q : Int) < (r12.length : Int) := by omega
    simp only [h1, decide_false, cond_false, pbody]
    cases bad with
    | true => rfl
    | false =>
      simp only [cond_false]
      rw [string_q h0]
      simp only [obind_some, show t.size + 1 < 4611686018427387904 by omega, if_true]
      rfl
  | succ k ih =>
    intro q hq f nl t bad hf h0 ht
    obtain ⟨f, rfl⟩ : ∃ z, f = z + 1 := ⟨f - 1, by omega⟩
    have hlt : q < r12.length := by omega
    have h1 : (q : Int) < (r12.length : Int) := by omega
    have h2 : (0 : Int) ≤ (q : Int) := by omega
    have hL := hr _ (List.getElem_mem hlt)
    have e2 : comma.size = 2 := rfl
    have hdec : decide ((q : Int) > 0) = decide (0 < q) := decide_eq_decide.2 (by omega)
    have hd4 : decide (((Row.R r12[q] 5).length : Int) > 4) = decide ((Row.R r12[q] 5).length > 4) := decide_eq_decide.2 (by omega)
    rw [show_Rule_s10, List.drop_eq_getElem_cons hlt, wrap_succ (show q < big by unfold big; omega)]
    simp only [h1, h2, if_true, decide_true, cond_true, Int.toNat_natCast, getD_get hlt, pbody, hdec, hd4]
    cases hq0 : decide (0 < q) with
    | true =>
      simp only [cond_true]
      rw [writes_q (s := comma) (t := t) (by omega)]
      simp only [obind_some]
      cases bad with
      | true => rfl
      | false =>
        simp only [cond_false]
        by_cases h4 : (Row.R r12[q] 5).length > 4
        · simp only [h4, decide_true, cond_true]; rfl
        · simp only [h4, decide_false, cond_false]
          have hs := plit_size (t := t ++ comma) (bad := false) hL (by omega)
          have hsz : (t ++ comma).size = t.size + comma.size := ByteArray.size_append ..
          obtain ⟨nl', he⟩ := plit_q (t := t ++ comma) (nl := nl && comma.size == 0) (bad := false) hn hL (by omega) (by omega) (fun y => show_Rule_l10 n s0 b1 j2 s3 s4 b5 r6 s7 b8 j9 s10 b11 r12 f y.snd.fst.snd.fst.fst y.snd.fst.snd.fst.snd y.snd.fst.snd.snd.fst ((q + 1 : Nat) : Int))
          refine he.trans ?_
          have hge := plit_ge (l := r12[q]) (t := t ++ comma) (bad := false)
          have hq1 : 100000 + 10000 * (q + 1) = 100000 + 10000 * q + 10000 := by omega
          exact ih (q + 1) (by omega) f nl' (plit r12[q] (t ++ comma) false).1 (plit r12[q] (t ++ comma) false).2 (by omega) (by omega) (by rw [hq1]; omega)
    | false =>
      simp only [cond_false]
      cases bad with
      | true => rfl
      | false =>
        simp only [cond_false]
        by_cases h4 : (Row.R r12[q] 5).length > 4
        · simp only [h4, decide_true, cond_true]; rfl
        · simp only [h4, decide_false, cond_false]
          have hs := plit_size (t := t) (bad := false) hL (by omega)
          obtain ⟨nl', he⟩ := plit_q (t := t) (nl := nl) (bad := false) hn hL (by omega) (by omega) (fun y => show_Rule_l10 n s0 b1 j2 s3 s4 b5 r6 s7 b8 j9 s10 b11 r12 f y.snd.fst.snd.fst.fst y.snd.fst.snd.fst.snd y.snd.fst.snd.snd.fst ((q + 1 : Nat) : Int))
          refine he.trans ?_
          have hge := plit_ge (l := r12[q]) (t := t) (bad := false)
          have hq1 : 100000 + 10000 * (q + 1) = 100000 + 10000 * q + 10000 := by omega
          exact ih (q + 1) (by omega) f nl' (plit r12[q] (t) false).1 (plit r12[q] (t) false).2 (by omega) (by omega) (by rw [hq1]; omega)
end
def prule (r : Row) : Option ByteArray :=
  bif decide ((Row.R r 10).length < 1) then none else bif decide ((Row.R r 10).length > 4) then none else bif decide ((Row.R r 5).length > 4) then none else
  pbody 0 (Row.R r 10) ((pmaybe bTo (tmAt r 6) noB (patom (Row.S r 4) (Row.R r 5) (noB ++ tx (tmAt r 0) ++ bColon) (term1 (tmAt r 0)).isNone).1 (patom (Row.S r 4) (Row.R r 5) (noB ++ tx (tmAt r 0) ++ bColon) (term1 (tmAt r 0)).isNone).2).1 ++ bIf)
    (pmaybe bTo (tmAt r 6) noB (patom (Row.S r 4) (Row.R r 5) (noB ++ tx (tmAt r 0) ++ bColon) (term1 (tmAt r 0)).isNone).1 (patom (Row.S r 4) (Row.R r 5) (noB ++ tx (tmAt r 0) ++ bColon) (term1 (tmAt r 0)).isNone).2).2
theorem show_Rule_q {n : Nat} {r : Row} (hn : 10000 < n) (h : RuleOk n r) : show_Rule_v n (Row.S r 0) (Row.B r 1) (Row.I r 2) (Row.S r 3) (Row.S r 4) (Row.N r 5) (Row.R r 5) (Row.S r 6) (Row.B r 7) (Row.I r 8) (Row.S r 9) (Row.N r 10) (Row.R r 10) = some (outS (prule r)) := by
  rw [show_Rule_e]
  unfold prule
  have d1 : decide (((Row.R r 10).length : Int) < 1) = decide ((Row.R r 10).length < 1) := decide_eq_decide.2 (by omega)
  have d2 : decide (((Row.R r 10).length : Int) > 4) = decide ((Row.R r 10).length > 4) := decide_eq_decide.2 (by omega)
  have d3 : decide (((Row.R r 5).length : Int) > 4) = decide ((Row.R r 5).length > 4) := decide_eq_decide.2 (by omega)
  rw [d1, d2, d3]
  by_cases h1 : (Row.R r 10).length < 1
  · simp only [h1, decide_true, cond_true]; rfl
  by_cases h2 : (Row.R r 10).length > 4
  · simp only [h1, h2, decide_true, decide_false, cond_true, cond_false]; rfl
  by_cases h3 : (Row.R r 5).length > 4
  · simp only [h1, h2, h3, decide_true, decide_false, cond_true, cond_false]; rfl
  simp only [h1, h2, h3, decide_false, cond_false]
  have hT := tx_size h.home.lo h.home.hi
  obtain ⟨n1, e1⟩ := pterm_nilp h.home hn
  have e1' : show_printer_term_nilp_v n (ByteArray.mk #[]) (Row.S r 0) (Row.B r 1) (Row.I r 2) (Row.S r 3) true [] false = some (pst n1 (noB ++ tx (tmAt r 0)) (term1 (tmAt r 0)).isNone) := e1
  rw [e1']
  simp only [obind_some]
  have z1 : (noB ++ tx (tmAt r 0)).size = noB.size + (tx (tmAt r 0)).size := ByteArray.size_append ..
  have z2 : (noB ++ tx (tmAt r 0) ++ bColon).size = (noB ++ tx (tmAt r 0)).size + bColon.size := ByteArray.size_append ..
  have c0 : noB.size = 0 := rfl
  have c1 : bColon.size = 2 := rfl
  have c2 : bIf.size = 4 := rfl
  rw [writes_q (s := bColon) (t := noB ++ tx (tmAt r 0)) (by omega)]
  simp only [obind_some]
  generalize ht0 : noB ++ tx (tmAt r 0) ++ bColon = t0 at z2 ⊢
  generalize (term1 (tmAt r 0)).isNone = bad0
  obtain ⟨n2, e2⟩ := patom_q (n := n) (pred := Row.S r 4) (anl := Row.N r 5) (args := Row.R r 5) (t := t0) (nl := n1 && bColon.size == 0) (bad := bad0) hn h.pred h.args h.len (by omega)
  rw [e2]
  simp only [obind_some]
  have z3 := patom_size (pred := Row.S r 4) (args := Row.R r 5) (t := t0) (bad := bad0) h.args
  have hp := h.pred
  generalize patom (Row.S r 4) (Row.R r 5) t0 bad0 = a at z3 ⊢
  obtain ⟨n3, e3⟩ := pmaybe_q (n := n) (ahead := bTo) (behind := noB) (t := a.1) (nl := n2) (bad := a.2) h.to_ hn (by decide) (by decide) (by omega)
  have e3' : show_printer_maybe_v n bTo (Row.S r 6) (Row.B r 7) (Row.I r 8) (Row.S r 9) (ByteArray.mk #[]) n2 (byteRows a.1) a.2 = _ := e3
  rw [e3']
  simp only [obind_some]
  have z4 := pmaybe_size (n := n) (ahead := bTo) (behind := noB) (t := a.1) (bad := a.2) h.to_ (by decide) (by decide)
  generalize pmaybe bTo (tmAt r 6) noB a.1 a.2 = m at z4 ⊢
  rw [writes_q (s := bIf) (t := m.1) (by omega)]
  simp only [obind_some]
  have z5 : (m.1 ++ bIf).size = m.1.size + bIf.size := ByteArray.size_append ..
  have := pbody_q (n := n) (s0 := Row.S r 0) (b1 := Row.B r 1) (j2 := Row.I r 2) (s3 := Row.S r 3) (s4 := Row.S r 4) (b5 := Row.N r 5) (r6 := Row.R r 5) (s7 := Row.S r 6) (b8 := Row.B r 7) (j9 := Row.I r 8) (s10 := Row.S r 9) (b11 := Row.N r 10) (r12 := Row.R r 10)
    hn h.body (by omega) (Row.R r 10).length 0 (by omega) n (n3 && bIf.size == 0) (m.1 ++ bIf) m.2 (by have := h.blen; omega) (by omega) (by omega)
  exact this
end Go.Den
/- Rules shown: the document's words; both are the same. -/
namespace Go.Den
open Go.Proofs
def refArgs : Nat → Rows → ByteArray → Option ByteArray
  | _, [], acc => some (acc ++ ByteArray.mk #[41])
  | q, r :: l, acc => match term1 (tmAt r 0) with
    | some s => refArgs (q + 1) l (bif decide (0 < q) then acc ++ comma ++ s else acc ++ s)
    | none => none
def atomR (pred : ByteArray) (args : Rows) : Option ByteArray := bif wordS pred then bif decide (args.length > 4) then none else refArgs 0 args (pred ++ ByteArray.mk #[40]) else none
def maybeR (ahead : ByteArray) (a : Tm) (behind : ByteArray) : Option ByteArray := bif nilT a then some noB else match term1 a with | some s => some (ahead ++ s ++ behind) | none => none
def litR (l : Row) : Option ByteArray :=
  match maybeR noB (tmAt l 0) bSays, atomR (Row.S l 4) (Row.R l 5), maybeR bAt (tmAt l 6) noB with
  | some x, some y, some z => some (x ++ y ++ z)
  | _, _, _ => none
def bodyR : Nat → Rows → ByteArray → Option ByteArray
  | _, [], acc => some (acc ++ ByteArray.mk #[46])
  | q, l :: ls, acc => match litR l with
    | some s => bodyR (q + 1) ls (bif decide (0 < q) then acc ++ comma ++ s else acc ++ s)
    | none => none
def headR (r : Row) : Option ByteArray :=
  match term1 (tmAt r 0), atomR (Row.S r 4) (Row.R r 5), maybeR bTo (tmAt r 6) noB with
  | some h, some a, some m => some (h ++ bColon ++ a ++ m ++ bIf)
  | _, _, _ => none
def ruleR (r : Row) : Option ByteArray :=
  bif decide ((Row.R r 10).length < 1) then none else bif decide ((Row.R r 10).length > 4) then none else
  match headR r with
  | some s => bodyR 0 (Row.R r 10) s
  | none => none
theorem emp_append (a : ByteArray) : noB ++ a = a := by
  have h : (noB ++ a).data = a.data := by rw [ByteArray.data_append]; simp
  cases a; cases h' : (noB ++ _); simp_all
theorem append_emp (a : ByteArray) : a ++ noB = a := by
  have h : (a ++ noB).data = a.data := by rw [ByteArray.data_append]; simp
  cases a; cases h' : (_ ++ noB); simp_all
theorem tx_some {t : Tm} {s : ByteArray} (h : term1 t = some s) : tx t = s := by unfold tx; rw [h]; rfl
theorem pargs_bad : ∀ (l : Rows) (q : Nat) (t : ByteArray), (pargs q l t true).2 = true
  | [], q, t => rfl
  | r :: l, q, t => by unfold pargs; exact pargs_bad l (q + 1) _
theorem pargs_ref : ∀ (l : Rows) (q : Nat) (pre acc : ByteArray), match refArgs q l acc with | some s => pargs q l (pre ++ acc) false = (pre ++ s, false) | none => (pargs q l (pre ++ acc) false).2 = true
  | [], q, pre, acc => by
    show (pre ++ acc ++ ByteArray.mk #[41], false) = (pre ++ (acc ++ ByteArray.mk #[41]), false)
    rw [ByteArray.append_assoc]
  | r :: l, q, pre, acc => by
    unfold refArgs pargs
    cases ht : term1 (tmAt r 0) with
    | none =>
      simp only [Option.isNone_none, cond_false]
      exact pargs_bad l (q + 1) _
    | some s =>
      simp only [cond_false, Option.isNone_some, tx_some ht, emp_append]
      cases hq : decide (0 < q) with
      | true =>
        have := pargs_ref l (q + 1) pre (acc ++ comma ++ s)
        simp only [cond_true, ← ByteArray.append_assoc] at this ⊢
        exact this
      | false =>
        have := pargs_ref l (q + 1) pre (acc ++ s)
        simp only [cond_false, ← ByteArray.append_assoc] at this ⊢
        exact this
theorem patom_bad {pred t : ByteArray} {args : Rows} : (patom pred args t true).2 = true := pargs_bad _ _ _
theorem patom_ref {pred t : ByteArray} {args : Rows} : match atomR pred args with | some s => patom pred args t false = (t ++ s, false) | none => (patom pred args t false).2 = true := by
  unfold atomR patom
  cases wordS pred with
  | false => simp only [Bool.not_false, Bool.true_or, Bool.or_true, cond_false]; exact pargs_bad _ _ _
  | true =>
    cases decide (args.length > 4) with
    | true => exact pargs_bad _ _ _
    | false => exact pargs_ref args 0 t (pred ++ ByteArray.mk #[40])
theorem pmaybe_bad {a b t : ByteArray} {x : Tm} : (pmaybe a x b t true).2 = true := by
  unfold pmaybe; cases nilT x <;> rfl
theorem pmaybe_ref {a b t : ByteArray} {x : Tm} : match maybeR a x b with | some s => pmaybe a x b t false = (t ++ s, false) | none => (pmaybe a x b t false).2 = true := by
  unfold maybeR pmaybe
  cases nilT x with
  | true => simp only [cond_true, append_emp]
  | false =>
    simp only [cond_false]
    cases ht : term1 x with
    | none => rfl
    | some s => simp only [tx_some ht, Option.isNone_some, Bool.or_self, ByteArray.append_assoc]
theorem plit_bad {l : Row} {t : ByteArray} : (plit l t true).2 = true := by
  unfold plit
  rw [show (pmaybe noB (tmAt l 0) bSays t true).2 = true from pmaybe_bad, patom_bad, pmaybe_bad]
theorem plit_ref {l : Row} {t : ByteArray} : match litR l with | some s => plit l t false = (t ++ s, false) | none => (plit l t false).2 = true := by
  unfold litR plit
  have h1 := pmaybe_ref (a := noB) (b := bSays) (t := t) (x := tmAt l 0)
  cases e1 : maybeR noB (tmAt l 0) bSays with
  | none =>
    rw [e1] at h1
    simp only at h1 ⊢
    rw [h1, patom_bad, pmaybe_bad]
  | some x =>
    rw [e1] at h1
    simp only at h1 ⊢
    rw [h1]
    have h2 := patom_ref (pred := Row.S l 4) (args := Row.R l 5) (t := t ++ x)
    cases e2 : atomR (Row.S l 4) (Row.R l 5) with
    | none =>
      rw [e2] at h2
      simp only at h2 ⊢
      rw [h2, pmaybe_bad]
    | some y =>
      rw [e2] at h2
      simp only at h2 ⊢
      rw [h2]
      have h3 := pmaybe_ref (a := bAt) (b := noB) (t := t ++ x ++ y) (x := tmAt l 6)
      cases e3 : maybeR bAt (tmAt l 6) noB with
      | none => rw [e3] at h3; exact h3
      | some z =>
        rw [e3] at h3
        simp only at h3 ⊢
        rw [h3]; simp only [ByteArray.append_assoc]
theorem pbody_bad : ∀ (l : Rows) (q : Nat) (t : ByteArray), pbody q l t true = none
  | [], q, t => rfl
  | l :: ls, q, t => rfl
theorem atomR_long {pred : ByteArray} {args : Rows} (h : args.length > 4) : atomR pred args = none := by
  unfold atomR
  rw [decide_eq_true h]
  cases wordS pred <;> rfl
theorem pbody_ref : ∀ (l : Rows) (q : Nat) (t : ByteArray), pbody q l t false = bodyR q l t
  | [], q, t => rfl
  | l :: ls, q, t => by
    unfold pbody bodyR
    simp only [cond_false]
    have h := plit_ref (l := l) (t := bif decide (0 < q) then t ++ comma else t)
    by_cases h4 : (Row.R l 5).length > 4
    · have : litR l = none := by
        unfold litR
        rw [atomR_long h4]
        cases maybeR noB (tmAt l 0) bSays <;> rfl
      rw [this, decide_eq_true h4]; rfl
    · rw [decide_eq_false h4]
      simp only [cond_false]
      cases e : litR l with
      | none =>
        rw [e] at h
        simp only at h ⊢
        rw [h, pbody_bad]
      | some s =>
        rw [e] at h
        simp only at h ⊢
        rw [h, pbody_ref]
        cases decide (0 < q) <;> simp only [cond_true, cond_false, ByteArray.append_assoc]
theorem prule_ref (r : Row) : prule r = ruleR r := by
  unfold prule ruleR headR
  cases decide ((Row.R r 10).length < 1) with
  | true => rfl
  | false =>
  cases decide ((Row.R r 10).length > 4) with
  | true => rfl
  | false =>
  simp only [cond_false]
  by_cases h4 : (Row.R r 5).length > 4
  · rw [decide_eq_true h4, atomR_long h4]
    cases term1 (tmAt r 0) <;> rfl
  · rw [decide_eq_false h4]
    simp only [cond_false]
    cases e0 : term1 (tmAt r 0) with
    | none =>
      simp only [Option.isNone_none]
      rw [patom_bad, pmaybe_bad, pbody_bad]
    | some h =>
      simp only [Option.isNone_some, tx_some e0, emp_append]
      have h2 := patom_ref (pred := Row.S r 4) (args := Row.R r 5) (t := h ++ bColon)
      cases e2 : atomR (Row.S r 4) (Row.R r 5) with
      | none =>
        rw [e2] at h2
        simp only at h2 ⊢
        rw [h2, pmaybe_bad, pbody_bad]
      | some y =>
        rw [e2] at h2
        simp only at h2 ⊢
        rw [h2]
        have h3 := pmaybe_ref (a := bTo) (b := noB) (t := h ++ bColon ++ y) (x := tmAt r 6)
        cases e3 : maybeR bTo (tmAt r 6) noB with
        | none =>
          rw [e3] at h3
          simp only at h3 ⊢
          rw [h3, pbody_bad]
        | some z =>
          rw [e3] at h3
          simp only at h3 ⊢
          rw [h3, pbody_ref]
end Go.Den
/- Rules shown: the document's code. -/
namespace Go.Den
open Go.Proofs
theorem refArgs_size {n : Nat} : ∀ (l : Rows) (q : Nat) (acc s : ByteArray), (∀ r ∈ l, TmOk n (tmAt r 0)) → refArgs q l acc = some s → s.size ≤ acc.size + 50 * l.length + 1
  | [], q, acc, s, _, hs => by
    cases hs
    have : (ByteArray.mk #[41]).size = 1 := rfl
    rw [ByteArray.size_append]; simp only [List.length_nil]; omega
  | r :: l, q, acc, s, h, hs => by
    unfold refArgs at hs
    have h0 := h r List.mem_cons_self
    cases ht : term1 (tmAt r 0) with
    | none => rw [ht] at hs; cases hs
    | some u =>
      rw [ht] at hs
      simp only at hs
      have hu := term1_size h0.lo h0.hi ht
      have e2 : comma.size = 2 := rfl
      have := refArgs_size l (q + 1) _ s (fun r hr => h r (List.mem_cons_of_mem _ hr)) hs
      simp only [List.length_cons]
      cases hq : decide (0 < q) with
      | true => rw [hq] at this; simp only [cond_true, ByteArray.size_append] at this; omega
      | false => rw [hq] at this; simp only [cond_false, ByteArray.size_append] at this; omega
theorem atomR_size {n : Nat} {pred : ByteArray} {args : Rows} {s : ByteArray} (h : ∀ r ∈ args, TmOk n (tmAt r 0)) (hs : atomR pred args = some s) : s.size ≤ 400 := by
  unfold atomR at hs
  cases hw : wordS pred with
  | false => rw [hw] at hs; cases hs
  | true =>
    rw [hw] at hs
    simp only [cond_true] at hs
    by_cases h4 : args.length > 4
    · rw [decide_eq_true h4] at hs; cases hs
    · rw [decide_eq_false h4] at hs
      simp only [cond_false] at hs
      have := refArgs_size args 0 _ s h hs
      rw [ByteArray.size_append] at this
      have e : (ByteArray.mk #[40]).size = 1 := rfl
      unfold wordS namedS at hw
      simp only [Bool.and_eq_true, decide_eq_true_eq] at hw
      omega
theorem maybeR_size {n : Nat} {a b : ByteArray} {x : Tm} {s : ByteArray} (h : TmOk n x) (ha : a.size ≤ 10) (hb : b.size ≤ 10) (hs : maybeR a x b = some s) : s.size ≤ 60 := by
  unfold maybeR at hs
  cases hn : nilT x with
  | true => rw [hn] at hs; cases hs; exact Nat.zero_le _
  | false =>
    rw [hn] at hs
    simp only [cond_false] at hs
    cases ht : term1 x with
    | none => rw [ht] at hs; cases hs
    | some u =>
      rw [ht] at hs
      cases hs
      have hu := term1_size h.lo h.hi ht
      simp only [ByteArray.size_append]; omega
theorem litR_size {n : Nat} {l : Row} {s : ByteArray} (h : LitOk n l) (hs : litR l = some s) : s.size ≤ 600 := by
  unfold litR at hs
  split at hs
  · rename_i x y z h1 h2 h3
    cases hs
    have a1 := maybeR_size h.by_ (by decide) (by decide) h1
    have a2 := atomR_size h.args h2
    have a3 := maybeR_size h.at_ (by decide) (by decide) h3
    simp only [ByteArray.size_append]; omega
  · cases hs
theorem ref_T1 {n : Nat} {t : Tm} {s0 : ByteArray} {b1 : Bool} {j2 : Int} {s3 : ByteArray} (e : t = (s0, b1, j2, s3)) (h : TmOk n t) (hn : 10000 < n) : ref09_Term_v n s0 b1 j2 s3 = some (outS (term1 t)) := by
  subst e
  have h1 := ref_T h hn
  generalize term1 (s0, b1, j2, s3) = o at h1 ⊢
  cases o <;> exact h1
def outB (o : Option ByteArray) : (ByteArray × Bool × Unit) × Unit := match o with | some s => ((s, (true, ())), ()) | none => ((noB, (false, ())), ())
section
variable {n : Nat} {s0 : ByteArray} {b1 : Bool} {r2 : Rows}
theorem ratom_loop (hn : 10000 < n) (hr : ∀ r ∈ r2, TmOk n (tmAt r 0)) (hl : r2.length ≤ 4) : ∀ k q : Nat, q + k = r2.length → ∀ f acc, k < f → acc.size ≤ 1000 + 50 * q →
    ref09_atom_l5 n s0 b1 r2 f acc (q : Int) = some (outB (refArgs q (r2.drop q) acc)) := by
  intro k
  induction k with
  | zero =>
    intro q hq f acc hf ha
    obtain ⟨f, rfl⟩ : ∃ z, f = z + 1 := ⟨f - 1, by omega⟩
    rw [ref09_atom_s5, List.drop_eq_nil_of_le (by omega)]
    have h1 : ¬ (q : Int) < (r2.length : Int) := by omega
    simp only [h1, decide_false, cond_false, refArgs, show acc.size + 1 < 4611686018427387904 by omega, if_true]
    rfl
  | succ k ih =>
    intro q hq f acc hf ha
    obtain ⟨f, rfl⟩ : ∃ z, f = z + 1 := ⟨f - 1, by omega⟩
    have hlt : q < r2.length := by omega
    have h1 : (q : Int) < (r2.length : Int) := by omega
    have h2 : (0 : Int) ≤ (q : Int) := by omega
    have h0 := hr _ (List.getElem_mem hlt)
    have e2 : (ByteArray.mk #[44, 32]).size = 2 := rfl
    have hdec : decide ((q : Int) > 0) = decide (0 < q) := decide_eq_decide.2 (by omega)
    have hT : ref09_Term_v n (Row.S r2[q] 0) (Row.B r2[q] 1) (Row.I r2[q] 2) (Row.S r2[q] 3) = some (outS (term1 (tmAt r2[q] 0))) := ref_T1 rfl h0 hn
    rw [ref09_atom_s5, List.drop_eq_getElem_cons hlt, wrap_succ (show q < big by unfold big; omega)]
    simp only [h1, h2, if_true, decide_true, cond_true, Int.toNat_natCast, getD_get hlt, refArgs, hdec, hT]
    have n100 : ((100 : Int) != 0) = true := rfl
    cases ht : term1 (tmAt r2[q] 0) with
    | none => simp only [outS, obind_some, n100, cond_true]; rfl
    | some u =>
      have hu := term1_size h0.lo h0.hi ht
      have z1 : (acc ++ ByteArray.mk #[44, 32]).size = acc.size + (ByteArray.mk #[44, 32]).size := ByteArray.size_append ..
      simp only [outS, obind_some, bne_self_eq_false, cond_false]
      cases hq0 : decide (0 < q) with
      | true =>
        simp only [cond_true, show acc.size + 2 < 4611686018427387904 by omega, show (acc ++ ByteArray.mk #[44, 32]).size + u.size < 4611686018427387904 by omega, if_true]
        exact ih (q + 1) (by omega) f _ (by omega) (by simp only [ByteArray.size_append]; omega)
      | false =>
        simp only [cond_false, show acc.size + u.size < 4611686018427387904 by omega, if_true]
        exact ih (q + 1) (by omega) f _ (by omega) (by simp only [ByteArray.size_append]; omega)
theorem ratom_q (hn : 10000 < n) (hr : ∀ r ∈ r2, TmOk n (tmAt r 0)) : ref09_atom_v n s0 b1 r2 = some (outB (atomR s0 r2)) := by
  rw [ref09_atom_e, word_q hn]
  unfold atomR
  have hd : decide ((r2.length : Int) > 4) = decide (r2.length > 4) := decide_eq_decide.2 (by omega)
  rw [hd]
  simp only [obind_some]
  show (bif !wordS s0 then _ else _) = _
  cases hw : wordS s0 with
  | false => rfl
  | true =>
    simp only [Bool.not_true, cond_false, cond_true]
    by_cases h4 : r2.length > 4
    · rw [decide_eq_true h4]; rfl
    · rw [decide_eq_false h4]
      have e : (ByteArray.mk #[40]).size = 1 := rfl
      unfold wordS namedS at hw
      simp only [Bool.and_eq_true, decide_eq_true_eq] at hw
      simp only [cond_false, show s0.size + 1 < 4611686018427387904 by omega, if_true]
      exact ratom_loop hn hr (by omega) r2.length 0 (by omega) n _ (by omega) (by rw [ByteArray.size_append]; omega)
end
def outM (a b : ByteArray) (o : Option ByteArray) : (ByteArray × Bool × Unit) × Unit := match o with | some s => ((s, (true, ())), ()) | none => ((a ++ noB ++ b, (false, ())), ())
theorem rmaybe_q {n : Nat} {a b : ByteArray} {x : Tm} (hn : 10000 < n) (h : TmOk n x) (ha : a.size ≤ 10) (hb : b.size ≤ 10) : ref09_maybe_v n a x.1 x.2.1 x.2.2.1 x.2.2.2 b = some (outM a b (maybeR a x b)) := by
  rw [ref09_maybe_e, ref09_none_e]
  unfold maybeR
  simp only [obind_some]
  show (bif nilT x then _ else _) = _
  cases nilT x with
  | true => rfl
  | false =>
    simp only [cond_false]
    rw [ref_T1 rfl h hn]
    cases ht : term1 x with
    | none =>
      have e0 : noB.size = 0 := rfl
      have z1 : (a ++ noB).size = a.size + noB.size := ByteArray.size_append ..
      simp only [outS, obind_some, show a.size + noB.size < 4611686018427387904 by omega, show (a ++ noB).size + b.size < 4611686018427387904 by omega, if_true]
      rfl
    | some u =>
      have hu := term1_size h.lo h.hi ht
      have z1 : (a ++ u).size = a.size + u.size := ByteArray.size_append ..
      simp only [outS, obind_some, show a.size + u.size < 4611686018427387904 by omega, show (a ++ u).size + b.size < 4611686018427387904 by omega, if_true]
      rfl
end Go.Den
/- Rules and programs shown: the document's code, and both programs. -/
namespace Go.Den
open Go.Proofs
section
variable {n : Nat} {s0 : ByteArray} {b1 : Bool} {j2 : Int} {s3 s4 : ByteArray} {b5 : Bool} {r6 : Rows} {s7 : ByteArray} {b8 : Bool} {j9 : Int} {s10 : ByteArray} {b11 : Bool} {r12 : Rows}
theorem rbody_q (hn : 10000 < n) (hr : ∀ l ∈ r12, LitOk n l) (hl : r12.length ≤ 10) : ∀ k q : Nat, q + k = r12.length → ∀ f acc, k < f → acc.size ≤ 100000 + 1000 * q →
    ref09_Rule_l10 n s0 b1 j2 s3 s4 b5 r6 s7 b8 j9 s10 b11 r12 f acc (q : Int) = some (outS (bodyR q (r12.drop q) acc)) := by
  intro k
  induction k with
  | zero =>
    intro q hq f acc hf ht
    obtain ⟨f, rfl⟩ : ∃ z, f = z + 1 := ⟨f - 1, by omega⟩
    rw [ref09_Rule_s10, List.drop_eq_nil_of_le (by omega)]
    have h1 : ¬ (q : Int) < (r12.length : Int) := by omega
    simp only [h1, decide_false, cond_false, bodyR, show acc.size + 1 < 4611686018427387904 by omega, if_true]
    rfl
  | succ k ih =>
    intro q hq f acc hf ht
    obtain ⟨f, rfl⟩ : ∃ z, f = z + 1 := ⟨f - 1, by omega⟩
    have hlt : q < r12.length := by omega
    have h1 : (q : Int) < (r12.length : Int) := by omega
    have h2 : (0 : Int) ≤ (q : Int) := by omega
    have hL := hr _ (List.getElem_mem hlt)
    have hdec : decide ((q : Int) > 0) = decide (0 < q) := decide_eq_decide.2 (by omega)
    have hA : ref09_maybe_v n (ByteArray.mk #[]) (Row.S r12[q] 0) (Row.B r12[q] 1) (Row.I r12[q] 2) (Row.S r12[q] 3) (ByteArray.mk #[32, 115, 97, 121, 115, 32]) = some (outM noB bSays (maybeR noB (tmAt r12[q] 0) bSays)) := by
      have := rmaybe_q (x := tmAt r12[q] 0) (a := noB) (b := bSays) hn hL.by_ (by decide) (by decide)
      exact this
    have hC : ref09_maybe_v n (ByteArray.mk #[32, 97, 116, 32]) (Row.S r12[q] 6) (Row.B r12[q] 7) (Row.I r12[q] 8) (Row.S r12[q] 9) (ByteArray.mk #[]) = some (outM bAt noB (maybeR bAt (tmAt r12[q] 6) noB)) := by
      have := rmaybe_q (x := tmAt r12[q] 6) (a := bAt) (b := noB) hn hL.at_ (by decide) (by decide)
      exact this
    rw [ref09_Rule_s10, List.drop_eq_getElem_cons hlt, wrap_succ (show q < big by unfold big; omega)]
    simp only [h1, h2, if_true, decide_true, cond_true, Int.toNat_natCast, getD_get hlt, hdec, hA, hC, ratom_q hn hL.args, obind_some]
    unfold bodyR litR
    cases e1 : maybeR noB (tmAt r12[q] 0) bSays with
    | none => rfl
    | some x =>
    have a1 := maybeR_size hL.by_ (by decide) (by decide) e1
    cases e2 : atomR (Row.S r12[q] 4) (Row.R r12[q] 5) with
    | none => rfl
    | some y =>
    have a2 := atomR_size hL.args e2
    cases e3 : maybeR bAt (tmAt r12[q] 6) noB with
    | none => rfl
    | some z =>
    have a3 := maybeR_size hL.at_ (by decide) (by decide) e3
    have c2 : (ByteArray.mk #[44, 32]).size = 2 := rfl
    have z1 : (x ++ y).size = x.size + y.size := ByteArray.size_append ..
    have z2 : (x ++ y ++ z).size = (x ++ y).size + z.size := ByteArray.size_append ..
    have z3 : (acc ++ ByteArray.mk #[44, 32]).size = acc.size + (ByteArray.mk #[44, 32]).size := ByteArray.size_append ..
    simp only [outM, outB, Bool.not_true, cond_false]
    cases hq0 : decide (0 < q) with
    | true =>
      simp only [cond_true, show acc.size + 2 < 4611686018427387904 by omega, show x.size + y.size < 4611686018427387904 by omega, show (x ++ y).size + z.size < 4611686018427387904 by omega, show (acc ++ ByteArray.mk #[44, 32]).size + (x ++ y ++ z).size < 4611686018427387904 by omega, if_true]
      have z4 : (acc ++ ByteArray.mk #[44, 32] ++ (x ++ y ++ z)).size = (acc ++ ByteArray.mk #[44, 32]).size + (x ++ y ++ z).size := ByteArray.size_append ..
      exact ih (q + 1) (by omega) f _ (by omega) (by omega)
    | false =>
      simp only [cond_false, show x.size + y.size < 4611686018427387904 by omega, show (x ++ y).size + z.size < 4611686018427387904 by omega, show acc.size + (x ++ y ++ z).size < 4611686018427387904 by omega, if_true]
      have z4 : (acc ++ (x ++ y ++ z)).size = acc.size + (x ++ y ++ z).size := ByteArray.size_append ..
      exact ih (q + 1) (by omega) f _ (by omega) (by omega)
end
theorem ref_Rule_q {n : Nat} {r : Row} (hn : 10000 < n) (h : RuleOk n r) : ref09_Rule_v n (Row.S r 0) (Row.B r 1) (Row.I r 2) (Row.S r 3) (Row.S r 4) (Row.N r 5) (Row.R r 5) (Row.S r 6) (Row.B r 7) (Row.I r 8) (Row.S r 9) (Row.N r 10) (Row.R r 10) = some (outS (ruleR r)) := by
  rw [ref09_Rule_e]
  unfold ruleR headR
  have d1 : decide (((Row.R r 10).length : Int) < 1) = decide ((Row.R r 10).length < 1) := decide_eq_decide.2 (by omega)
  have d2 : decide (((Row.R r 10).length : Int) > 4) = decide ((Row.R r 10).length > 4) := decide_eq_decide.2 (by omega)
  rw [d1, d2]
  by_cases h1 : (Row.R r 10).length < 1
  · simp only [h1, decide_true, cond_true]; rfl
  by_cases h2 : (Row.R r 10).length > 4
  · simp only [h1, h2, decide_true, decide_false, cond_true, cond_false]; rfl
  simp only [h1, h2, decide_false, cond_false]
  have hH : ref09_Term_v n (Row.S r 0) (Row.B r 1) (Row.I r 2) (Row.S r 3) = some (outS (term1 (tmAt r 0))) := ref_T1 rfl h.home hn
  have hM : ref09_maybe_v n (ByteArray.mk #[32, 116, 111, 32]) (Row.S r 6) (Row.B r 7) (Row.I r 8) (Row.S r 9) (ByteArray.mk #[]) = some (outM bTo noB (maybeR bTo (tmAt r 6) noB)) := by
    have := rmaybe_q (x := tmAt r 6) (a := bTo) (b := noB) hn h.to_ (by decide) (by decide)
    exact this
  simp only [hH, hM, ratom_q hn h.args, obind_some]
  have n100 : ((100 : Int) != 0) = true := rfl
  cases e1 : term1 (tmAt r 0) with
  | none => simp only [outS, n100, cond_true]
  | some x =>
  have a1 := term1_size h.home.lo h.home.hi e1
  simp only [outS, bne_self_eq_false, cond_false]
  cases e2 : atomR (Row.S r 4) (Row.R r 5) with
  | none => rfl
  | some y =>
  have a2 := atomR_size h.args e2
  cases e3 : maybeR bTo (tmAt r 6) noB with
  | none => rfl
  | some z =>
  have a3 := maybeR_size h.to_ (by decide) (by decide) e3
  have c2 : bColon.size = 2 := rfl
  have c3 : bIf.size = 4 := rfl
  have z1 : (x ++ bColon).size = x.size + bColon.size := ByteArray.size_append ..
  have z2 : (x ++ bColon ++ y).size = (x ++ bColon).size + y.size := ByteArray.size_append ..
  have z3 : (x ++ bColon ++ y ++ z).size = (x ++ bColon ++ y).size + z.size := ByteArray.size_append ..
  have z4 : (x ++ bColon ++ y ++ z ++ bIf).size = (x ++ bColon ++ y ++ z).size + bIf.size := ByteArray.size_append ..
  simp only [outM, outB, Bool.not_true, cond_false]
  simp only [show x.size + 2 < 4611686018427387904 by omega, show (x ++ bColon).size + y.size < 4611686018427387904 by omega, show (x ++ bColon ++ y).size + z.size < 4611686018427387904 by omega, show (x ++ bColon ++ y ++ z).size + 4 < 4611686018427387904 by omega, if_true]
  have hf := rbody_q (n := n) (s0 := Row.S r 0) (b1 := Row.B r 1) (j2 := Row.I r 2) (s3 := Row.S r 3) (s4 := Row.S r 4) (b5 := Row.N r 5) (r6 := Row.R r 5) (s7 := Row.S r 6) (b8 := Row.B r 7) (j9 := Row.I r 8) (s10 := Row.S r 9) (b11 := Row.N r 10) (r12 := Row.R r 10)
    hn h.body (by omega) (Row.R r 10).length 0 (by omega) n (x ++ bColon ++ y ++ z ++ bIf) (by omega) (by omega)
  exact hf
theorem show_Rule_r {n : Nat} {r : Row} (hn : 10000 < n) (h : RuleOk n r) : show_Rule_v n (Row.S r 0) (Row.B r 1) (Row.I r 2) (Row.S r 3) (Row.S r 4) (Row.N r 5) (Row.R r 5) (Row.S r 6) (Row.B r 7) (Row.I r 8) (Row.S r 9) (Row.N r 10) (Row.R r 10) = some (outS (ruleR r)) := by
  rw [show_Rule_q hn h, prule_ref]
/-! programs -/
theorem bodyR_size {n : Nat} : ∀ (l : Rows) (q : Nat) (acc s : ByteArray), (∀ r ∈ l, LitOk n r) → bodyR q l acc = some s → s.size ≤ acc.size + 700 * l.length + 1
  | [], q, acc, s, _, hs => by
    cases hs
    have : (ByteArray.mk #[46]).size = 1 := rfl
    rw [ByteArray.size_append]; simp only [List.length_nil]; omega
  | r :: l, q, acc, s, h, hs => by
    unfold bodyR at hs
    have h0 := h r List.mem_cons_self
    cases ht : litR r with
    | none => rw [ht] at hs; cases hs
    | some u =>
      rw [ht] at hs
      simp only at hs
      have hu := litR_size h0 ht
      have e2 : (ByteArray.mk #[44, 32]).size = 2 := rfl
      have e2' : comma.size = 2 := rfl
      have := bodyR_size l (q + 1) _ s (fun r hr => h r (List.mem_cons_of_mem _ hr)) hs
      simp only [List.length_cons]
      cases hq : decide (0 < q) with
      | true => rw [hq] at this; simp only [cond_true, ByteArray.size_append] at this; omega
      | false => rw [hq] at this; simp only [cond_false, ByteArray.size_append] at this; omega
theorem ruleR_size {n : Nat} {r : Row} {s : ByteArray} (h : RuleOk n r) (hs : ruleR r = some s) : s.size ≤ 4000 := by
  unfold ruleR headR at hs
  by_cases h1 : (Row.R r 10).length < 1
  · rw [decide_eq_true h1] at hs; cases hs
  by_cases h2 : (Row.R r 10).length > 4
  · rw [decide_eq_false h1, decide_eq_true h2] at hs; cases hs
  rw [decide_eq_false h1, decide_eq_false h2] at hs
  simp only [cond_false] at hs
  split at hs
  · rename_i u hu
    split at hu
    · rename_i x y z e1 e2 e3
      cases hu
      have a1 := term1_size h.home.lo h.home.hi e1
      have a2 := atomR_size h.args e2
      have a3 := maybeR_size h.to_ (by decide) (by decide) e3
      have := bodyR_size _ 0 _ s h.body hs
      have c2 : bColon.size = 2 := rfl
      have c3 : bIf.size = 4 := rfl
      simp only [ByteArray.size_append] at this
      have c2' : (ByteArray.mk #[58, 32]).size = 2 := rfl
      have c3' : (ByteArray.mk #[32, 58, 45, 32]).size = 4 := rfl
      omega
    · cases hu
  · cases hs
/-- rules one below the other -/
def progR : Rows → ByteArray → Option ByteArray
  | [], acc => some acc
  | r :: l, acc => match ruleR r with
    | some s => progR l (acc ++ (s ++ ByteArray.mk #[10]))
    | none => none
def progO (l : Rows) : (ByteArray × Int × Unit) × Unit :=
  bif decide (l.length > 16) then ((noB, (81, ())), ()) else
  match progR l noB with
  | some s => bif decide (s.size > 4096) then ((noB, (3, ())), ()) else ((s, (0, ())), ())
  | none => ((noB, (100, ())), ())
def progE (o : Option ByteArray) : (ByteArray × Int × Unit) × Unit :=
  match o with
  | some s => bif decide (s.size > 4096) then ((noB, (3, ())), ()) else ((s, (0, ())), ())
  | none => ((noB, (100, ())), ())
section
variable {n : Nat} {b0 : Bool} {r1 : Rows} (hn : 10000 < n) (hr : ∀ r ∈ r1, RuleOk n r) (hl : r1.length ≤ 16)
include hn hr hl
theorem show_prog_loop : ∀ k q : Nat, q + k = r1.length → ∀ f acc, k < f → acc.size ≤ 5000 * q → show_Program_l5 n b0 r1 f acc (q : Int) = some (progE (progR (r1.drop q) acc)) := by
  intro k
  induction k with
  | zero =>
    intro q hq f acc hf ha
    obtain ⟨f, rfl⟩ : ∃ z, f = z + 1 := ⟨f - 1, by omega⟩
    rw [show_Program_s5, List.drop_eq_nil_of_le (by omega)]
    have h1 : ¬ (q : Int) < (r1.length : Int) := by omega
    have hd : decide ((acc.size : Int) > 4096) = decide (acc.size > 4096) := decide_eq_decide.2 (by omega)
    simp only [h1, decide_false, cond_false, progR, progE, hd]
    cases decide (acc.size > 4096) <;> rfl
  | succ k ih =>
    intro q hq f acc hf ha
    obtain ⟨f, rfl⟩ : ∃ z, f = z + 1 := ⟨f - 1, by omega⟩
    have hlt : q < r1.length := by omega
    have h1 : (q : Int) < (r1.length : Int) := by omega
    have h2 : (0 : Int) ≤ (q : Int) := by omega
    have hR := hr _ (List.getElem_mem hlt)
    rw [show_Program_s5, List.drop_eq_getElem_cons hlt, wrap_succ (show q < big by unfold big; omega)]
    simp only [h1, h2, if_true, decide_true, cond_true, Int.toNat_natCast, getD_get hlt, show_Rule_r hn hR, obind_some]
    unfold progR
    have n100 : ((100 : Int) != 0) = true := rfl
    cases e : ruleR r1[q] with
    | none => simp only [outS, n100, cond_true, progE]
    | some s =>
      have a1 := ruleR_size hR e
      have c1 : (ByteArray.mk #[10]).size = 1 := rfl
      have z1 : (s ++ ByteArray.mk #[10]).size = s.size + (ByteArray.mk #[10]).size := ByteArray.size_append ..
      have z2 : (acc ++ (s ++ ByteArray.mk #[10])).size = acc.size + (s ++ ByteArray.mk #[10]).size := ByteArray.size_append ..
      simp only [outS, bne_self_eq_false, cond_false, show s.size + 1 < 4611686018427387904 by omega, show acc.size + (s ++ ByteArray.mk #[10]).size < 4611686018427387904 by omega, if_true]
      exact ih (q + 1) (by omega) f _ (by omega) (by omega)
theorem ref_prog_loop : ∀ k q : Nat, q + k = r1.length → ∀ f acc, k < f → acc.size ≤ 5000 * q → ref09_Program_l5 n b0 r1 f acc (q : Int) = some (progE (progR (r1.drop q) acc)) := by
  intro k
  induction k with
  | zero =>
    intro q hq f acc hf ha
    obtain ⟨f, rfl⟩ : ∃ z, f = z + 1 := ⟨f - 1, by omega⟩
    rw [ref09_Program_s5, List.drop_eq_nil_of_le (by omega)]
    have h1 : ¬ (q : Int) < (r1.length : Int) := by omega
    have hd : decide ((acc.size : Int) > 4096) = decide (acc.size > 4096) := decide_eq_decide.2 (by omega)
    simp only [h1, decide_false, cond_false, progR, progE, hd]
    cases decide (acc.size > 4096) <;> rfl
  | succ k ih =>
    intro q hq f acc hf ha
    obtain ⟨f, rfl⟩ : ∃ z, f = z + 1 := ⟨f - 1, by omega⟩
    have hlt : q < r1.length := by omega
    have h1 : (q : Int) < (r1.length : Int) := by omega
    have h2 : (0 : Int) ≤ (q : Int) := by omega
    have hR := hr _ (List.getElem_mem hlt)
    rw [ref09_Program_s5, List.drop_eq_getElem_cons hlt, wrap_succ (show q < big by unfold big; omega)]
    simp only [h1, h2, if_true, decide_true, cond_true, Int.toNat_natCast, getD_get hlt, ref_Rule_q hn hR, obind_some]
    unfold progR
    have n100 : ((100 : Int) != 0) = true := rfl
    cases e : ruleR r1[q] with
    | none => simp only [outS, n100, cond_true, progE]
    | some s =>
      have a1 := ruleR_size hR e
      have c1 : (ByteArray.mk #[10]).size = 1 := rfl
      have z1 : (s ++ ByteArray.mk #[10]).size = s.size + (ByteArray.mk #[10]).size := ByteArray.size_append ..
      have z2 : (acc ++ (s ++ ByteArray.mk #[10])).size = acc.size + (s ++ ByteArray.mk #[10]).size := ByteArray.size_append ..
      simp only [outS, bne_self_eq_false, cond_false, show s.size + 1 < 4611686018427387904 by omega, show acc.size + (s ++ ByteArray.mk #[10]).size < 4611686018427387904 by omega, if_true]
      exact ih (q + 1) (by omega) f _ (by omega) (by omega)
end
theorem progO_eq (l : Rows) : progO l = bif decide (l.length > 16) then ((noB, (81, ())), ()) else progE (progR l noB) := rfl
theorem show_Program_q {n : Nat} {b0 : Bool} {r1 : Rows} (hn : 10000 < n) (hr : ∀ r ∈ r1, RuleOk n r) : show_Program_v n b0 r1 = some (progO r1) := by
  rw [show_Program_e, progO_eq]
  have hd : decide ((r1.length : Int) > 16) = decide (r1.length > 16) := decide_eq_decide.2 (by omega)
  rw [hd]
  by_cases h : r1.length > 16
  · rw [decide_eq_true h]; rfl
  · rw [decide_eq_false h]
    exact show_prog_loop hn hr (by omega) r1.length 0 (by omega) n noB (by omega) (by decide)
theorem ref_Program_q {n : Nat} {b0 : Bool} {r1 : Rows} (hn : 10000 < n) (hr : ∀ r ∈ r1, RuleOk n r) : ref09_Program_v n b0 r1 = some (progO r1) := by
  rw [ref09_Program_e, progO_eq]
  have hd : decide ((r1.length : Int) > 16) = decide (r1.length > 16) := decide_eq_decide.2 (by omega)
  rw [hd]
  by_cases h : r1.length > 16
  · rw [decide_eq_true h]; rfl
  · rw [decide_eq_false h]
    exact ref_prog_loop hn hr (by omega) r1.length 0 (by omega) n noB (by omega) (by decide)
end Go.Den
/- How great facts and rules are. -/
namespace Go.Den
/-- A sum that stops when it is too great. -/
def sumTo (most : Int) (f : Row → Int) : Rows → Int → Int
  | [], n => n
  | r :: l, n => bif decide (n ≤ most) then sumTo most f l (n + f r) else n
theorem sumTo_ge {most : Int} {f : Row → Int} : ∀ (l : Rows) (n : Int), (∀ r ∈ l, 0 ≤ f r) → n ≤ sumTo most f l n
  | [], n, _ => Int.le_refl _
  | r :: l, n, h => by
    unfold sumTo
    have h0 := h r List.mem_cons_self
    have := sumTo_ge (most := most) l (n + f r) (fun q hq => h q (List.mem_cons_of_mem _ hq))
    cases decide (n ≤ most) with
    | true => simp only [cond_true]; omega
    | false => simp only [cond_false]; omega
theorem sumTo_all {most : Int} {f : Row → Int} : ∀ (l : Rows) (n : Int), (∀ r ∈ l, 1 ≤ f r) → sumTo most f l n ≤ most → n + l.length ≤ sumTo most f l n ∧ ∀ r ∈ l, n + f r ≤ sumTo most f l n
  | [], n, _, _ => ⟨by simp [sumTo], fun r hr => by cases hr⟩
  | r :: l, n, h, hm => by
    unfold sumTo at hm ⊢
    have h1 := h r List.mem_cons_self
    have hl : ∀ q ∈ l, 1 ≤ f q := fun q hq => h q (List.mem_cons_of_mem _ hq)
    by_cases hn : n ≤ most
    · simp only [hn, decide_true, cond_true] at hm ⊢
      obtain ⟨a, b⟩ := sumTo_all l (n + f r) hl hm
      have g := sumTo_ge (most := most) (f := f) l (n + f r) (fun q hq => by have := hl q hq; omega)
      refine ⟨by simp only [List.length_cons]; omega, fun q hq => ?_⟩
      rcases List.mem_cons.1 hq with rfl | hq
      · exact g
      · have := b q hq; omega
    · rw [decide_eq_false hn] at hm
      exact absurd hm hn
theorem sumTo_le {most : Int} {f : Row → Int} {b : Int} (hb : 0 ≤ b) : ∀ (l : Rows) (n : Int), (∀ r ∈ l, f r ≤ b) → n ≤ most + b → sumTo most f l n ≤ most + b
  | [], n, _, hn => hn
  | r :: l, n, h, hn => by
    unfold sumTo
    have h0 := h r List.mem_cons_self
    by_cases hm : n ≤ most
    · simp only [hm, decide_true, cond_true]
      exact sumTo_le hb l (n + f r) (fun q hq => h q (List.mem_cons_of_mem _ hq)) (by omega)
    · simp only [hm, decide_false, cond_false]; exact hn
/-- a list's part of a sum: 1, its arguments, its name -/
def w5l (r : Row) : Int := 1 + ((Row.R r 5).length : Int) + Int.tdiv ((Row.S r 4).size : Int) 16
def w5r (most : Int) (r : Row) (n : Int) : Int := sumTo most w5l (Row.R r 10) (n + w5l r)
def weight5 (most : Int) : Rows → Int → Int
  | [], n => n
  | r :: l, n => bif decide (n ≤ most) then weight5 most l (w5r most r n) else n
def w4c (r : Row) : Int := Int.tdiv ((Row.S r 2).size : Int) 16
def w4f (r : Row) : Int := 1 + ((Row.R r 3).length : Int) + Int.tdiv (((Row.S r 0).size : Int) + (Row.S r 1).size + (Row.S r 2).size) 16
def w4r (most : Int) (r : Row) (n : Int) : Int := sumTo most w4c (Row.R r 3) (n + w4f r)
def weight4 (most : Int) : Rows → Int → Int
  | [], n => n
  | r :: l, n => bif decide (n ≤ most) then weight4 most l (w4r most r n) else n
@[reducible] def kT : List Kd := [.s, .b, .i .i64, .s]
@[reducible] def kC : List Kd := [.b, .i .i64, .s]
@[reducible] def kL : List Kd := [.s, .b, .i .i64, .s, .s, .sl kT, .s, .b, .i .i64, .s]
@[reducible] def kR : List Kd := [.s, .b, .i .i64, .s, .s, .sl kT, .s, .b, .i .i64, .s, .sl kL]
@[reducible] def kF : List Kd := [.s, .s, .s, .sl kC]
theorem tdiv16 {n : Nat} (h : n ≤ 3 * reachBytes) : 0 ≤ Int.tdiv (n : Int) 16 ∧ Int.tdiv (n : Int) 16 ≤ 3 * reachBytes := by
  have e : Int.tdiv (n : Int) 16 = ((n / 16 : Nat) : Int) := rfl
  rw [e]
  have : n / 16 ≤ n := Nat.div_le_self _ _
  omega
theorem w5l_bound {r : Row} (hl : (Row.R r 5).length ≤ reachBytes) (hs : (Row.S r 4).size ≤ reachBytes) : 1 ≤ w5l r ∧ w5l r ≤ 1000000000000000 ∧ ((Row.R r 5).length : Int) < w5l r := by
  unfold w5l
  have := tdiv16 (n := (Row.S r 4).size) (by omega)
  unfold reachBytes at *
  omega
theorem w4c_bound {r : Row} (hs : (Row.S r 2).size ≤ reachBytes) : 0 ≤ w4c r ∧ w4c r ≤ 1000000000000000 := by
  unfold w4c
  have := tdiv16 (n := (Row.S r 2).size) (by omega)
  unfold reachBytes at *
  omega
theorem w4f_bound {r : Row} (hl : (Row.R r 3).length ≤ reachBytes) (h0 : (Row.S r 0).size ≤ reachBytes) (h1 : (Row.S r 1).size ≤ reachBytes) (h2 : (Row.S r 2).size ≤ reachBytes) : 1 ≤ w4f r ∧ w4f r ≤ 1000000000000000 ∧ ((Row.R r 3).length : Int) < w4f r := by
  unfold w4f
  have := tdiv16 (n := (Row.S r 0).size + (Row.S r 1).size + (Row.S r 2).size) (by omega)
  simp only [Int.natCast_add] at this
  unfold reachBytes at *
  omega
/-- what is known of rules' rows -/
theorem fineL {r : Row} (h : Row.ofKds kL r = true ∧ RowFine r) : (Row.R r 5).length ≤ reachBytes ∧ (Row.S r 4).size ≤ reachBytes := ⟨(fine_sl (j := 5) h.1 h.2 rfl).1, fine_S h.2⟩
theorem fineR {r : Row} (h : Row.ofKds kR r = true ∧ RowFine r) : (Row.R r 5).length ≤ reachBytes ∧ (Row.S r 4).size ≤ reachBytes ∧ (Row.R r 10).length ≤ reachBytes ∧ RowsFine kL (Row.R r 10) := ⟨(fine_sl (j := 5) h.1 h.2 rfl).1, fine_S h.2, (fine_sl (j := 10) h.1 h.2 rfl).1, (fine_sl (j := 10) h.1 h.2 rfl).2.2.1⟩
theorem fineF {r : Row} (h : Row.ofKds kF r = true ∧ RowFine r) : (Row.R r 3).length ≤ reachBytes ∧ (Row.S r 0).size ≤ reachBytes ∧ (Row.S r 1).size ≤ reachBytes ∧ (Row.S r 2).size ≤ reachBytes ∧ RowsFine kC (Row.R r 3) := ⟨(fine_sl (j := 3) h.1 h.2 rfl).1, fine_S h.2, fine_S h.2, fine_S h.2, (fine_sl (j := 3) h.1 h.2 rfl).2.2.1⟩
end Go.Den
/- Copies of rules; what is shown hangs on the data alone. -/
namespace Go.Den
open Go.Proofs
theorem refArgs_data : ∀ (a b : Rows) (q : Nat) (acc : ByteArray), tms a = tms b → refArgs q a acc = refArgs q b acc
  | [], [], _, _, _ => rfl
  | [], _ :: _, _, _, h => by cases h
  | _ :: _, [], _, _, h => by cases h
  | r :: a, s :: b, q, acc, h => by
    have h' : tmAt r 0 :: tms a = tmAt s 0 :: tms b := h
    simp only [List.cons.injEq] at h'
    unfold refArgs
    rw [h'.1]
    split
    · exact refArgs_data a b (q + 1) _ h'.2
    · rfl
theorem atomR_data {p : ByteArray} {a b : Rows} (h : tms a = tms b) : atomR p a = atomR p b := by
  unfold atomR
  have hl : a.length = b.length := by rw [← tms_len, ← tms_len b, h]
  rw [hl, refArgs_data a b 0 _ h]
theorem litR_data {a b : Row} (h : litD a = litD b) : litR a = litR b := by
  unfold litD at h
  simp only [Prod.mk.injEq] at h
  unfold litR
  rw [h.1, h.2.1, h.2.2.2, atomR_data h.2.2.1]
theorem bodyR_data : ∀ (a b : Rows) (q : Nat) (acc : ByteArray), a.map litD = b.map litD → bodyR q a acc = bodyR q b acc
  | [], [], _, _, _ => rfl
  | [], _ :: _, _, _, h => by cases h
  | _ :: _, [], _, _, h => by cases h
  | r :: a, s :: b, q, acc, h => by
    simp only [List.map_cons, List.cons.injEq] at h
    unfold bodyR
    rw [litR_data h.1]
    split
    · exact bodyR_data a b (q + 1) _ h.2
    · rfl
theorem ruleR_data {a b : Row} (h : ruleD a = ruleD b) : ruleR a = ruleR b := by
  unfold ruleD at h
  simp only [Prod.mk.injEq] at h
  unfold ruleR headR
  have hl : (Row.R a 10).length = (Row.R b 10).length := by have := congrArg List.length h.2.2.2.2; simpa using this
  rw [h.1, h.2.1, h.2.2.2.1, atomR_data h.2.2.1, hl]
  split <;> rename_i heq <;> simp only [bodyR_data _ _ 0 _ h.2.2.2.2]
theorem progR_data : ∀ (a b : Rows) (acc : ByteArray), a.map ruleD = b.map ruleD → progR a acc = progR b acc
  | [], [], _, _ => rfl
  | [], _ :: _, _, h => by cases h
  | _ :: _, [], _, h => by cases h
  | r :: a, s :: b, acc, h => by
    simp only [List.map_cons, List.cons.injEq] at h
    unfold progR
    rw [ruleR_data h.1]
    split
    · exact progR_data a b _ h.2
    · rfl
theorem progO_data {a b : Rows} (h : a.map ruleD = b.map ruleD) : progO a = progO b := by
  unfold progO
  have hl : a.length = b.length := by have := congrArg List.length h; simpa using this
  rw [hl, progR_data a b _ h]
theorem TmOk.args {n : Nat} : ∀ {a b : Rows}, tms a = tms b → (∀ r ∈ a, TmOk n (tmAt r 0)) → ∀ r ∈ b, TmOk n (tmAt r 0) := by
  intro a b h ha r hr
  have : tmAt r 0 ∈ tms b := List.mem_map.2 ⟨r, hr, rfl⟩
  rw [← h] at this
  obtain ⟨s, hs, e⟩ := List.mem_map.1 this
  have := ha s hs
  rwa [e] at this
theorem LitOk.data {n : Nat} {a b : Row} (h : litD a = litD b) (ha : LitOk n a) : LitOk n b := by
  unfold litD at h
  simp only [Prod.mk.injEq] at h
  have hl : (Row.R a 5).length = (Row.R b 5).length := by rw [← tms_len, ← tms_len (Row.R b 5), h.2.2.1]
  exact ⟨h.1 ▸ ha.by_, h.2.1 ▸ ha.pred, hl ▸ ha.len, TmOk.args h.2.2.1 ha.args, h.2.2.2 ▸ ha.at_⟩
theorem RuleOk.data {n : Nat} {a b : Row} (h : ruleD a = ruleD b) (ha : RuleOk n a) : RuleOk n b := by
  unfold ruleD at h
  simp only [Prod.mk.injEq] at h
  have hl : (Row.R a 5).length = (Row.R b 5).length := by rw [← tms_len, ← tms_len (Row.R b 5), h.2.2.1]
  have hl2 : (Row.R a 10).length = (Row.R b 10).length := by have := congrArg List.length h.2.2.2.2; simpa using this
  refine ⟨h.1 ▸ ha.home, h.2.1 ▸ ha.pred, hl ▸ ha.len, TmOk.args h.2.2.1 ha.args, h.2.2.2.1 ▸ ha.to_, hl2 ▸ ha.blen, fun l hl => ?_⟩
  have : litD l ∈ (Row.R b 10).map litD := List.mem_map.2 ⟨l, hl, rfl⟩
  rw [← h.2.2.2.2] at this
  obtain ⟨s, hs, e⟩ := List.mem_map.1 this
  exact LitOk.data e (ha.body s hs)
theorem RulesOk.data {n : Nat} {a b : Rows} (h : a.map ruleD = b.map ruleD) (ha : ∀ r ∈ a, RuleOk n r) : ∀ r ∈ b, RuleOk n r := by
  intro l hl
  have : ruleD l ∈ b.map ruleD := List.mem_map.2 ⟨l, hl, rfl⟩
  rw [← h] at this
  obtain ⟨s, hs, e⟩ := List.mem_map.1 this
  exact RuleOk.data e (ha s hs)
/-! copies -/
def copyLit (l : Row) : Row := spliceD l 5 [.sl (false && List.isEmpty (Row.R l 5)) kT (appX [] (Row.R l 5))]
def copyRule (r : Row) : Row := [.val (.string (Row.S r 0)), .val (.bool (Row.B r 1)), .val (.int .i64 (Row.I r 2)), .val (.string (Row.S r 3)), .val (.string (Row.S r 4)), .sl (false && List.isEmpty (Row.R r 5)) kT (appX [] (Row.R r 5)),
  .val (.string (Row.S r 6)), .val (.bool (Row.B r 7)), .val (.int .i64 (Row.I r 8)), .val (.string (Row.S r 9)), .sl false kL ((Row.R r 10).map copyLit)]
theorem at_splice {l : Row} {d : DV} (h : 5 < l.length) (j : Nat) : Row.at (spliceD l 5 [d]) j = if j = 5 then d else Row.at l j := by
  unfold Row.at spliceD
  simp only [List.getD_eq_getElem?_getD]
  have hl : (l.take 5).length = 5 := by rw [List.length_take]; omega
  by_cases h5 : j = 5
  · subst h5
    rw [if_pos rfl, List.append_assoc, List.getElem?_append_right (by omega), hl]; rfl
  · rw [if_neg h5]
    by_cases hj : j < 5
    · rw [List.append_assoc, List.getElem?_append_left (by omega), List.getElem?_take_of_lt hj]
    · rw [List.getElem?_append_right (by simp; omega), List.getElem?_drop]
      congr 2
      simp only [List.length_append, hl, List.length_cons, List.length_nil]; omega
theorem copyLit_D {l : Row} (h : 5 < l.length) : litD (copyLit l) = litD l := by
  have e := fun j => at_splice (d := DV.sl (false && List.isEmpty (Row.R l 5)) kT (appX [] (Row.R l 5))) h j
  have e5 : Row.R (copyLit l) 5 = Row.R l 5 := by
    show (Row.at (copyLit l) 5).toRows = _
    unfold copyLit
    rw [e, if_pos rfl]
    show appX [] (Row.R l 5) = _
    simp [appX]
  unfold litD tmAt
  rw [e5]
  unfold Row.S Row.B Row.I copyLit
  simp only [e]
  rfl
theorem copyRule_D {r : Row} (h : ∀ l ∈ Row.R r 10, 5 < l.length) : ruleD (copyRule r) = ruleD r := by
  have e10 : (Row.R (copyRule r) 10).map litD = (Row.R r 10).map litD := by
    show ((Row.R r 10).map copyLit).map litD = _
    rw [List.map_map]
    exact List.map_congr_left fun l hl => copyLit_D (h l hl)
  have e5 : tms (Row.R (copyRule r) 5) = tms (Row.R r 5) := by
    show tms (appX [] (Row.R r 5)) = _
    simp [appX]
  unfold ruleD
  rw [e10, e5]
  rfl
section
variable {n : Nat} {b0 : Bool} {r1 : Rows}
theorem copy_in (hn : r1.length < n) {j : Nat} (hj : j < r1.length) (hin : (Row.R r1[j] 10).length < n) (hb : (Row.R r1[j] 10).length ≤ 1000) (hb1 : r1.length ≤ 1000)
    (ha : ∀ l ∈ Row.R r1[j] 10, (Row.R l 5).length ≤ 1000) (hl : ∀ l ∈ Row.R r1[j] 10, 5 < l.length) {i0 : Nat} {nl : Bool} {r8 : Rows} (h8 : r8.length = j) :
    ∀ k q : Nat, q + k = (Row.R r1[j] 10).length → ∀ i, k < i →
    ref05_Copy_l9 n b0 r1 i0 i (q : Int) (((Row.R r1[j] 10).take q).map copyLit ++ (Row.R r1[j] 10).drop q) nl r8 (j : Int) (Row.S r1[j] 0) (Row.B r1[j] 1) (Row.I r1[j] 2) (Row.S r1[j] 3) (Row.S r1[j] 4) (false && List.isEmpty (Row.R r1[j] 5)) (appX [] (Row.R r1[j] 5)) (Row.S r1[j] 6) (Row.B r1[j] 7) (Row.I r1[j] 8) (Row.S r1[j] 9) (Row.R r1[j] 10).length (Row.R r1[j] 10).length
    = ref05_Copy_l3 n b0 r1 i0 (nl && false) (r8 ++ [copyRule r1[j]]) ((j + 1 : Nat) : Int) := by
  intro k
  induction k with
  | zero =>
    intro q hq i hi
    obtain ⟨i, rfl⟩ : ∃ m, i = m + 1 := ⟨i - 1, by omega⟩
    rw [ref05_Copy_s9, List.drop_eq_nil_of_le (by omega), List.take_of_length_le (by omega), List.append_nil, wrap_succ (show j < big by unfold big; omega)]
    have h1 : ¬ (q : Int) < ((Row.R r1[j] 10).length : Int) := by omega
    have h2 : 0 + (Row.R r1[j] 10).length ≤ ((Row.R r1[j] 10).map copyLit).length := by rw [List.length_map]; omega
    have h3 : Nat.ble (0 + (Row.R r1[j] 10).length) (0 + (Row.R r1[j] 10).length) = true := Nat.ble_eq_true_of_le (Nat.le_refl _)
    have h4 : (List.take (Row.R r1[j] 10).length (List.drop 0 ((Row.R r1[j] 10).map copyLit))) = (Row.R r1[j] 10).map copyLit := by
      rw [List.drop_zero, List.take_of_length_le (by rw [List.length_map]; omega)]
    simp only [h1, decide_false, cond_false, h2, if_true, h3, Bool.and_true, h4]
    rw [show Kd.sameL [Kd.s, Kd.b, Kd.i IntKind.i64, Kd.s, Kd.s, Kd.sl [Kd.s, Kd.b, Kd.i IntKind.i64, Kd.s], Kd.s, Kd.b, Kd.i IntKind.i64, Kd.s] [Kd.s, Kd.b, Kd.i IntKind.i64, Kd.s, Kd.s, Kd.sl [Kd.s, Kd.b, Kd.i IntKind.i64, Kd.s], Kd.s, Kd.b, Kd.i IntKind.i64, Kd.s] = true from rfl, cond_true]
    rw [if_pos (by simp only [List.length_cons, List.length_nil]; omega)]
    rfl
  | succ k ih =>
    intro q hq i hi
    obtain ⟨i, rfl⟩ : ∃ m, i = m + 1 := ⟨i - 1, by omega⟩
    have hlt : q < (Row.R r1[j] 10).length := by omega
    have h1 : (q : Int) < ((Row.R r1[j] 10).length : Int) := by omega
    have h2 : (0 : Int) ≤ (q : Int) := by omega
    have hlen : (((Row.R r1[j] 10).take q).map copyLit ++ (Row.R r1[j] 10).drop q).length = (Row.R r1[j] 10).length := by
      simp only [List.length_append, List.length_map, List.length_take, List.length_drop]; omega
    have h3 : 0 + (q : Int).toNat < (((Row.R r1[j] 10).take q).map copyLit ++ (Row.R r1[j] 10).drop q).length := by rw [hlen, Int.toNat_natCast]; omega
    have hg : (((Row.R r1[j] 10).take q).map copyLit ++ (Row.R r1[j] 10).drop q).getD (0 + (q : Int).toNat) [] = (Row.R r1[j] 10)[q] := by
      have hz : (((Row.R r1[j] 10).take q).map copyLit).length = q := by rw [List.length_map, List.length_take]; omega
      rw [Int.toNat_natCast, Nat.zero_add, List.getD_eq_getElem?_getD, List.getElem?_append_right (by omega), List.getElem?_drop, hz, Nat.sub_self, Nat.add_zero, List.getElem?_eq_getElem hlt, Option.getD_some]
    have hA := ha _ (List.getElem_mem hlt)
    rw [ref05_Copy_s9, wrap_succ (show q < big by unfold big; omega)]
    simp only [h1, h2, if_true, decide_true, cond_true, h3, hg]
    rw [if_pos (by omega)]
    have hset : List.set (((Row.R r1[j] 10).take q).map copyLit ++ (Row.R r1[j] 10).drop q) (0 + (q : Int).toNat) (copyLit (Row.R r1[j] 10)[q]) = ((Row.R r1[j] 10).take (q + 1)).map copyLit ++ (Row.R r1[j] 10).drop (q + 1) := by
      have hz : (((Row.R r1[j] 10).take q).map copyLit).length = q := by rw [List.length_map, List.length_take]; omega
      rw [Int.toNat_natCast, Nat.zero_add, List.set_append_right _ _ (by omega), hz, Nat.sub_self]
      rw [List.drop_eq_getElem_cons hlt, List.set_cons_zero, List.take_succ_eq_append_getElem hlt, List.map_append]
      simp
    refine Eq.trans ?_ (ih (q + 1) (by omega) i (by omega))
    rw [← hset]
    rfl
structure CopyOk (n : Nat) (r : Row) : Prop where
  a : (Row.R r 5).length ≤ 1000
  b : (Row.R r 10).length ≤ 1000
  ba : ∀ l ∈ Row.R r 10, (Row.R l 5).length ≤ 1000
  bl : ∀ l ∈ Row.R r 10, 5 < l.length
theorem copy_out (hn : 1000 < n) (hb : r1.length ≤ 1000) (h : ∀ r ∈ r1, CopyOk n r) : ∀ k q : Nat, q + k = r1.length → ∀ i nl, k < i →
    ref05_Copy_l3 n b0 r1 i nl ((r1.take q).map copyRule) (q : Int) = some ((nl && decide (k = 0), r1.map copyRule), ()) := by
  intro k
  induction k with
  | zero =>
    intro q hq i nl hi
    obtain ⟨i, rfl⟩ : ∃ m, i = m + 1 := ⟨i - 1, by omega⟩
    rw [ref05_Copy_s3, List.take_of_length_le (by omega)]
    have h1 : ¬ (q : Int) < (r1.length : Int) := by omega
    simp only [h1, decide_false, cond_false, decide_true, Bool.and_true]
  | succ k ih =>
    intro q hq i nl hi
    obtain ⟨i, rfl⟩ : ∃ m, i = m + 1 := ⟨i - 1, by omega⟩
    have hlt : q < r1.length := by omega
    have h1 : (q : Int) < (r1.length : Int) := by omega
    have h2 : (0 : Int) ≤ (q : Int) := by omega
    have hc := h _ (List.getElem_mem hlt)
    rw [ref05_Copy_s3]
    simp only [h1, h2, if_true, decide_true, cond_true, Int.toNat_natCast, getD_get hlt]
    rw [if_pos (by have := hc.a; omega), if_pos (by have := hc.b; omega)]
    have hi := copy_in (n := n) (b0 := b0) (r1 := r1) (by omega) hlt (by have := hc.b; omega) hc.b hb hc.ba hc.bl (i0 := i) (nl := nl) (r8 := (r1.take q).map copyRule) (by simp; omega) (Row.R r1[q] 10).length 0 (by omega) n (by have := hc.b; omega)
    simp only [List.take_zero, List.map_nil, List.nil_append, List.drop_zero] at hi
    refine Eq.trans hi ?_
    have ht : (r1.take q).map copyRule ++ [copyRule r1[q]] = (r1.take (q + 1)).map copyRule := by
      rw [List.take_succ_eq_append_getElem hlt, List.map_append]; rfl
    rw [ht, ih (q + 1) (by omega) i (nl && false) (by omega)]
    simp
theorem Copy_q (hn : 1000 < n) (hb : r1.length ≤ 1000) (h : ∀ r ∈ r1, CopyOk n r) : ∃ nl, ref05_Copy_v n b0 r1 = some ((nl, r1.map copyRule), ()) := by
  rw [ref05_Copy_e]
  exact ⟨_, copy_out hn hb h r1.length 0 (by omega) n true (by omega)⟩
end
theorem copy_D {r1 : Rows} (h : ∀ r ∈ r1, ∀ l ∈ Row.R r 10, 5 < l.length) : (r1.map copyRule).map ruleD = r1.map ruleD := by
  rw [List.map_map]
  exact List.map_congr_left fun r hr => copyRule_D (h r hr)
end Go.Den
/- The code of the weights. -/
namespace Go.Den
open Go.Proofs
theorem W_add {a b : Int} (h1 : -4611686018427387904 ≤ a + b) (h2 : a + b ≤ 4611686018427387904) : IntKind.wrap IntKind.i64 (a + b) = a + b := wrap_small h1 h2
theorem wsum {z a b : Int} (h0 : 0 ≤ z) (h1 : z ≤ 3000000000000000) (h2 : 0 ≤ a) (h3 : a ≤ 1000000000000000) (h4 : 0 ≤ b) (h5 : b ≤ 1000000000000000) :
    IntKind.wrap IntKind.i64 (z + IntKind.wrap IntKind.i64 (IntKind.wrap IntKind.i64 (1 + a) + IntKind.wrap IntKind.i64 b)) = z + (1 + a + b) := by
  rw [wrap_small (z := 1 + a) (by omega) (by omega), wrap_small (z := b) (by omega) (by omega), wrap_small (z := 1 + a + b) (by omega) (by omega), wrap_small (z := z + (1 + a + b)) (by omega) (by omega)]
section
variable {n : Nat} {b0 : Bool} {most : Int} (hm0 : 0 ≤ most) (hm : most ≤ 1000000)
include hm0 hm
theorem weight5_inner {r1 : Rows} (hr : RowsFine kR r1) (hlen : r1.length ≤ reachBytes) {j i0 : Nat} (hj : j < r1.length) : ∀ k q : Nat, q + k = (Row.R r1[j] 10).length → ∀ i z, k < i → 0 ≤ z → z ≤ most + 2000000000000000 →
    ref05_Weight_l7 n b0 r1 most i0 i z (q : Int) (j : Int) = ref05_Weight_l3 n b0 r1 most i0 (sumTo most w5l ((Row.R r1[j] 10).drop q) z) ((j + 1 : Nat) : Int) := by
  have hfr := fineR (rowsFine_get hr hj)
  have g1 : (0 : Int) ≤ (j : Int) := by omega
  have g2 : (j : Int) < (r1.length : Int) := by omega
  have wj : IntKind.wrap IntKind.i64 ((j : Int) + 1) = ((j + 1 : Nat) : Int) := wrap_succ (by unfold reachBytes at *; unfold big; omega)
  intro k
  induction k with
  | zero =>
    intro q hq i z hi h0 hz
    obtain ⟨i, rfl⟩ : ∃ m, i = m + 1 := ⟨i - 1, by omega⟩
    rw [ref05_Weight_s7]
    simp only [g1, g2, if_true, Int.toNat_natCast, getD_get hj]
    have h1 : ¬ (q : Int) < ((Row.R r1[j] 10).length : Int) := by omega
    rw [List.drop_eq_nil_of_le (by omega)]
    simp only [h1, decide_false, cond_false, sumTo, wj]
  | succ k ih =>
    intro q hq i z hi h0 hz
    obtain ⟨i, rfl⟩ : ∃ m, i = m + 1 := ⟨i - 1, by omega⟩
    have hlt : q < (Row.R r1[j] 10).length := by omega
    rw [ref05_Weight_s7, List.drop_eq_getElem_cons hlt]
    have h1 : (q : Int) < ((Row.R r1[j] 10).length : Int) := by omega
    have h2 : (0 : Int) ≤ (q : Int) := by omega
    simp only [g1, g2, if_true, Int.toNat_natCast, getD_get hj, h1, h2, decide_true, cond_true, getD_get hlt, sumTo, wj]
    by_cases hzm : z ≤ most
    · have hfl := fineL (rowsFine_get hfr.2.2.2 hlt)
      have hb := w5l_bound hfl.1 hfl.2
      have ht := tdiv16 (n := (Row.S (Row.R r1[j] 10)[q] 4).size) (by omega)
      have wq : IntKind.wrap IntKind.i64 ((q : Int) + 1) = ((q + 1 : Nat) : Int) := wrap_succ (by unfold reachBytes at *; unfold big; omega)
      have hw : IntKind.wrap IntKind.i64 (z + IntKind.wrap IntKind.i64 (IntKind.wrap IntKind.i64 (1 + ((Row.R (Row.R r1[j] 10)[q] 5).length : Int)) + IntKind.wrap IntKind.i64 (Int.tdiv ((Row.S (Row.R r1[j] 10)[q] 4).size : Int) 16))) = z + w5l (Row.R r1[j] 10)[q] := by
        unfold w5l at hb ⊢
        unfold reachBytes at *
        exact wsum (by omega) (by omega) (by omega) (by omega) (by omega) (by omega)
      simp only [hzm, decide_true, cond_true, hw, wq]
      exact ih (q + 1) (by omega) i _ (by omega) (by omega) (by omega)
    · simp only [hzm, decide_false, cond_false]
theorem weight5_outer {r1 : Rows} (hr : RowsFine kR r1) (hlen : r1.length ≤ reachBytes) (hn : ∀ r ∈ r1, (Row.R r 10).length < n) : ∀ k q : Nat, q + k = r1.length → ∀ i z, k < i → 0 ≤ z → z ≤ most + 2000000000000000 →
    ref05_Weight_l3 n b0 r1 most i z (q : Int) = some (weight5 most (r1.drop q) z, ()) := by
  intro k
  induction k with
  | zero =>
    intro q hq i z hi h0 hz
    obtain ⟨i, rfl⟩ : ∃ m, i = m + 1 := ⟨i - 1, by omega⟩
    rw [ref05_Weight_s3, List.drop_eq_nil_of_le (by omega)]
    have h1 : ¬ (q : Int) < (r1.length : Int) := by omega
    simp only [h1, decide_false, cond_false, weight5]
  | succ k ih =>
    intro q hq i z hi h0 hz
    obtain ⟨i, rfl⟩ : ∃ m, i = m + 1 := ⟨i - 1, by omega⟩
    have hlt : q < r1.length := by omega
    have hfr := fineR (rowsFine_get hr hlt)
    rw [ref05_Weight_s3, List.drop_eq_getElem_cons hlt]
    have h1 : (q : Int) < (r1.length : Int) := by omega
    have h2 : (0 : Int) ≤ (q : Int) := by omega
    simp only [h1, h2, if_true, decide_true, cond_true, Int.toNat_natCast, getD_get hlt, weight5]
    by_cases hzm : z ≤ most
    · have hb := w5l_bound hfr.1 hfr.2.1
      have ht := tdiv16 (n := (Row.S r1[q] 4).size) (by omega)
      have hw : IntKind.wrap IntKind.i64 (z + IntKind.wrap IntKind.i64 (IntKind.wrap IntKind.i64 (1 + ((Row.R r1[q] 5).length : Int)) + IntKind.wrap IntKind.i64 (Int.tdiv ((Row.S r1[q] 4).size : Int) 16))) = z + w5l r1[q] := by
        unfold w5l at hb ⊢
        unfold reachBytes at *
        exact wsum (by omega) (by omega) (by omega) (by omega) (by omega) (by omega)
      simp only [hzm, decide_true, cond_true, hw]
      have hi := weight5_inner hm0 hm (n := n) (b0 := b0) hr hlen (i0 := i) hlt (Row.R r1[q] 10).length 0 (by omega) n (z + w5l r1[q]) (hn _ (List.getElem_mem hlt)) (by omega) (by omega)
      rw [show ((0 : Nat) : Int) = 0 from rfl] at hi
      rw [hi, List.drop_zero]
      have hfl : ∀ r ∈ Row.R r1[q] 10, 1 ≤ w5l r ∧ w5l r ≤ 1000000000000000 := fun r hr' => by
        have hfl := fineL (rowsFine_mem hfr.2.2.2 hr')
        have := w5l_bound hfl.1 hfl.2
        omega
      have a1 := sumTo_ge (most := most) (f := w5l) (Row.R r1[q] 10) (z + w5l r1[q]) (fun r hr' => by have := hfl r hr'; omega)
      have a2 := sumTo_le (most := most) (f := w5l) (b := 1000000000000000) (by omega) (Row.R r1[q] 10) (z + w5l r1[q]) (fun r hr' => by have := hfl r hr'; omega) (by omega)
      exact ih (q + 1) (by omega) i _ (by omega) (by omega) (by omega)
    · simp only [hzm, decide_false, cond_false]
theorem weight5_q {r1 : Rows} (hr : RowsFine kR r1) (hlen : r1.length ≤ reachBytes) (hn : ∀ r ∈ r1, (Row.R r 10).length < n) (hn' : r1.length < n) : ref05_Weight_v n b0 r1 most = some (weight5 most r1 0, ()) := by
  rw [ref05_Weight_e]
  exact weight5_outer hm0 hm hr hlen hn r1.length 0 (by omega) n 0 hn' (by omega) (by omega)
end
end Go.Den
/- ShowRules. -/
namespace Go.Den
open Go.Proofs
theorem weight5_ge {most : Int} : ∀ (l : Rows) (z : Int), RowsFine kR l → z ≤ weight5 most l z
  | [], z, _ => Int.le_refl _
  | r :: l, z, h => by
    unfold weight5
    have hfr := fineR ⟨h.1, h.2.1⟩
    have hb := w5l_bound hfr.1 hfr.2.1
    have hfl : ∀ q ∈ Row.R r 10, 0 ≤ w5l q := fun q hq => by
      have hfl := fineL (rowsFine_mem hfr.2.2.2 hq)
      have := w5l_bound hfl.1 hfl.2
      omega
    have a1 := sumTo_ge (most := most) (f := w5l) (Row.R r 10) (z + w5l r) hfl
    have := weight5_ge (most := most) l (w5r most r z) h.2.2
    unfold w5r at *
    cases decide (z ≤ most) with
    | true => simp only [cond_true]; omega
    | false => simp only [cond_false]; omega
theorem weight5_all2 {most : Int} : ∀ (l : Rows) (z : Int), RowsFine kR l → 0 ≤ z → weight5 most l z ≤ most → z + l.length ≤ most ∧ ∀ r ∈ l, w5l r ≤ most ∧ ((Row.R r 10).length : Int) ≤ most ∧ ∀ q ∈ Row.R r 10, w5l q ≤ most
  | [], z, _, _, hm => ⟨by simpa [weight5] using hm, fun r hr => by cases hr⟩
  | r :: l, z, h, hz, hm => by
    unfold weight5 at hm
    have hfr := fineR ⟨h.1, h.2.1⟩
    have hb := w5l_bound hfr.1 hfr.2.1
    by_cases hzm : z ≤ most
    · simp only [hzm, decide_true, cond_true] at hm
      have hfl : ∀ q ∈ Row.R r 10, 1 ≤ w5l q := fun q hq => by
        have hfl := fineL (rowsFine_mem hfr.2.2.2 hq)
        have := w5l_bound hfl.1 hfl.2
        omega
      have g := weight5_ge (most := most) l (w5r most r z) h.2.2
      have a1 := sumTo_ge (most := most) (f := w5l) (Row.R r 10) (z + w5l r) (fun q hq => by have := hfl q hq; omega)
      obtain ⟨b1, b2⟩ := sumTo_all (most := most) (f := w5l) (Row.R r 10) (z + w5l r) hfl (show w5r most r z ≤ most from Int.le_trans g hm)
      obtain ⟨c1, c2⟩ := weight5_all2 l (w5r most r z) h.2.2 (by unfold w5r; omega) hm
      unfold w5r at c1 g
      refine ⟨by simp only [List.length_cons]; omega, fun q hq => ?_⟩
      rcases List.mem_cons.1 hq with rfl | hq
      · refine ⟨by omega, by omega, fun p hp => ?_⟩
        have := b2 p hp
        omega
      · exact c2 q hq
    · rw [decide_eq_false hzm] at hm
      exact absurd hm hzm
theorem w5l_le {r : Row} (hl : (Row.R r 5).length ≤ reachBytes) (hs : (Row.S r 4).size ≤ reachBytes) (h : w5l r ≤ 300) : (Row.R r 5).length ≤ 300 ∧ (Row.S r 4).size ≤ 5000 := by
  have hb := w5l_bound hl hs
  unfold w5l at h hb
  have e : Int.tdiv ((Row.S r 4).size : Int) 16 = (((Row.S r 4).size / 16 : Nat) : Int) := rfl
  have ht := tdiv16 (n := (Row.S r 4).size) (by omega)
  rw [e] at h ht
  have : (Row.S r 4).size / 16 ≤ 300 := by omega
  omega
/-- More than any length. -/
def bigN : Nat := reachBytes + 20000
theorem bigN_lt {k : Nat} (h : k ≤ reachBytes) : k < bigN := by unfold bigN; omega
theorem bigN_big : 10000 < bigN := by unfold bigN; omega
theorem tmOk {ks : List Kd} {r : Row} {o : Nat} (h : Row.ofKds ks r = true ∧ RowFine r) (hk : ks[o + 2]? = some (.i .i64)) : TmOk bigN (tmAt r o) := by
  have h2 := lit_i64 (fine_I (j := o + 2) h.1 h.2 hk)
  have h3 : (Row.S r (o + 3)).size ≤ reachBytes := fine_S h.2
  exact ⟨by show _ ≤ Row.I r (o + 2); omega, by show Row.I r (o + 2) ≤ _; omega, h3, bigN_lt h3⟩
theorem argsOk {rows : Rows} (h : RowsFine kT rows) : ∀ r ∈ rows, TmOk bigN (tmAt r 0) := fun r hr => tmOk (rowsFine_mem h hr) rfl
theorem litOk {l : Row} (h : Row.ofKds kL l = true ∧ RowFine l) (hw : w5l l ≤ 300) : LitOk bigN l := by
  have hs := fine_sl (j := 5) h.1 h.2 rfl
  have := w5l_le hs.1 (fine_S h.2) hw
  exact ⟨tmOk h rfl, this.2, by omega, argsOk hs.2.2.1, tmOk h rfl⟩
theorem ruleOk {r : Row} (h : Row.ofKds kR r = true ∧ RowFine r) (hw : w5l r ≤ 300) (hb : ((Row.R r 10).length : Int) ≤ 300) (hl : ∀ q ∈ Row.R r 10, w5l q ≤ 300) : RuleOk bigN r := by
  have hs := fine_sl (j := 5) h.1 h.2 rfl
  have hs10 := fine_sl (j := 10) h.1 h.2 rfl
  have := w5l_le hs.1 (fine_S h.2) hw
  exact ⟨tmOk h rfl, this.2, by omega, argsOk hs.2.2.1, tmOk h rfl, by omega, fun l hl' => litOk (rowsFine_mem hs10.2.2.1 hl') (hl l hl')⟩
/-- Rules that are little enough. -/
structure RulesOk (l : Rows) : Prop where
  len : l.length ≤ 300
  ok : ∀ r ∈ l, RuleOk bigN r
  copy : ∀ r ∈ l, CopyOk bigN r
  small : ∀ r ∈ l, Small2 bigN r
theorem rulesOk {l : Rows} (h : RowsFine kR l) (hw : weight5 300 l 0 ≤ 300) : RulesOk l := by
  obtain ⟨h1, h2⟩ := weight5_all2 l 0 h (Int.le_refl _) hw
  have hk : ∀ r ∈ l, ∀ q ∈ Row.R r 10, Row.ofKds kL q = true ∧ RowFine q := fun r hr q hq => rowsFine_mem (fine_sl (j := 10) (rowsFine_mem h hr).1 (rowsFine_mem h hr).2 rfl).2.2.1 hq
  have hB : big = 4611686018427387904 ∨ 1000000 ≤ big := .inr (by unfold big; omega)
  have hb : 1000000 ≤ big := by unfold big; omega
  refine ⟨by omega, fun r hr => ruleOk (rowsFine_mem h hr) (h2 r hr).1 (h2 r hr).2.1 (h2 r hr).2.2, fun r hr => ?_, fun r hr => ?_⟩
  · have hR := ruleOk (rowsFine_mem h hr) (h2 r hr).1 (h2 r hr).2.1 (h2 r hr).2.2
    exact ⟨hR.len, hR.blen, fun q hq => (hR.body q hq).len, fun q hq => by have := Row.ofKds_length (hk r hr q hq).1; simp at this; omega⟩
  · have hR := ruleOk (rowsFine_mem h hr) (h2 r hr).1 (h2 r hr).2.1 (h2 r hr).2.2
    have hN := bigN_big
    have a1 := hR.len
    have a2 := hR.blen
    exact ⟨⟨by omega, by omega⟩, ⟨⟨by omega, by omega⟩, fun q hq => by have := (hR.body q hq).len; exact ⟨by omega, by omega⟩⟩⟩
theorem rules_loop {r1 : Rows} {b0 : Bool} {n : Nat} (hn : 10000 < n) (hl : r1.length ≤ 300) (h : ∀ r ∈ r1, RuleOk n r) : ∀ k q : Nat, q + k = r1.length → ∀ i, k < i → law09_ShowRules_l9 n b0 r1 i (q : Int) = some (true, ()) := by
  intro k
  induction k with
  | zero =>
    intro q hq i hi
    obtain ⟨i, rfl⟩ : ∃ m, i = m + 1 := ⟨i - 1, by omega⟩
    rw [law09_ShowRules_s9]
    have h1 : ¬ (q : Int) < (r1.length : Int) := by omega
    simp only [h1, decide_false, cond_false, live9_at (show 64 ≤ n by omega), obind_some]
  | succ k ih =>
    intro q hq i hi
    obtain ⟨i, rfl⟩ : ∃ m, i = m + 1 := ⟨i - 1, by omega⟩
    have hlt : q < r1.length := by omega
    have h1 : (q : Int) < (r1.length : Int) := by omega
    have h2 : (0 : Int) ≤ (q : Int) := by omega
    have hR := h _ (List.getElem_mem hlt)
    rw [law09_ShowRules_s9, wrap_succ (show q < big by unfold big; omega)]
    simp only [h1, h2, if_true, decide_true, cond_true, Int.toNat_natCast, getD_get hlt, show_Rule_r hn hR, ref_Rule_q hn hR, obind_some, beq_self_eq_true, Bool.not_true, cond_false, bne_self_eq_false]
    exact ih (q + 1) (by omega) i (by omega)
theorem law09_ShowRules_pure (b0 : Bool) (r1 : Rows) (h : Fsl b0 kR r1) : ∃ n, law09_ShowRules_v n b0 r1 = some (true, ()) := by
  refine ⟨bigN, ?_⟩
  have hN := bigN_big
  have hlv := live9_at (n := bigN) (by omega)
  rw [law09_ShowRules_e, weight5_q (by omega) (by omega) h.2.2.1 h.1 (fun r hr => bigN_lt (fineR (rowsFine_mem h.2.2.1 hr)).2.2.1) (bigN_lt h.1), hlv]
  simp only [obind_some]
  by_cases hw : weight5 300 r1 0 > 300
  · simp only [hw, decide_true, cond_true]
  · simp only [hw, decide_false, cond_false]
    have hok := rulesOk h.2.2.1 (by omega)
    have hlen := hok.len
    have hb : 1000000 ≤ big := by unfold big; omega
    obtain ⟨nl, hc⟩ := Copy_q (n := bigN) (b0 := b0) (by omega) (by omega) hok.copy
    have hD := copy_D (r1 := r1) (fun r hr => (hok.copy r hr).bl)
    have hokc := RulesOk.data hD.symm hok.ok
    have hlc : (r1.map copyRule).length = r1.length := List.length_map ..
    have hsm : ∀ a ∈ r1.map copyRule, Small2 bigN a := fun a ha => by
      have hR := hokc a ha
      have a1 := hR.len
      have a2 := hR.blen
      exact ⟨⟨by omega, by omega⟩, ⟨⟨by omega, by omega⟩, fun q hq => by have := (hR.body q hq).len; exact ⟨by omega, by omega⟩⟩⟩
    rw [hc]
    simp only [obind_some]
    rw [show_Program_q hN hokc, ref_Program_q hN hok.ok]
    simp only [obind_some, progO_data hD, beq_self_eq_true, Bool.not_true, cond_false, bne_self_eq_false]
    rw [Like_qd (by omega) (by omega) hsm, decide_eq_true hD]
    simp only [obind_some, Bool.not_true, cond_false]
    exact rules_loop hN hlen hok.ok r1.length 0 (by omega) bigN (by omega)
end Go.Den
