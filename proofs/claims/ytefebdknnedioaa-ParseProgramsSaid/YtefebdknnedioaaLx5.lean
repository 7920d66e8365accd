import Derived.Test.YtefebdknnedioaaLx4
set_option linter.unusedVariables false
set_option linter.unusedSimpArgs false
set_option linter.unusedSectionVars false
/- The cutting of a text, as the document has it. -/
namespace Go.Den
open Go.Proofs
abbrev TokOut := Option (((Int × ByteArray × Int × Int × Unit) × Int × Unit) × Unit)
def tokFail : TokOut := some (((0, (ByteArray.mk #[], (0, (0, ())))), (-1, ())), ())
def tokAns (j e : Nat) : Option Int → TokOut
  | some v => some (((3, (ByteArray.mk #[], (v, ((j : Int), ())))), ((e : Int), ())), ())
  | none => tokFail
section
variable {s : ByteArray} (hs : s.size < big)
include hs
theorem ref_number_loop {n : Nat} {j f e : Nat} (hf : f < s.size) (hjf : j ≤ f) (he : e ≤ s.size) (hin : ∀ i, f ≤ i → i < e → isDigit (bt s (i : Int)) = true) (hout : e < s.size → isDigit (bt s (e : Int)) = false) :
    ∀ k q : Nat, q + k = e → f ≤ q → ∀ i m, s.size - q < i →
    ref07_number_l6 n s (j : Int) i (q : Int) (f : Int) m = tokAns j e (match numF s k q m with
      | none => none
      | some r => bif decide (e = f) then none else bif bt s (f : Int) == 48 && (decide (e > f + 1) || decide (f > j)) then none
        else bif decide (f = j) then (bif r == -9223372036854775808 then none else some (W (0 - r))) else some r) := by
  intro k
  have w1 : IntKind.wrap IntKind.i64 ((f : Int) + 1) = ((f + 1 : Nat) : Int) := wrap_succ (by omega)
  have d1 : ((e : Int) == (f : Int)) = decide (e = f) := by
    by_cases h : e = f
    · subst h; simp
    · have : ¬ (e : Int) = (f : Int) := by omega
      rw [decide_eq_false h]; simpa using this
  have d2 : decide ((e : Int) > ((f + 1 : Nat) : Int)) = decide (e > f + 1) := decide_eq_decide.2 (by omega)
  have d3 : decide ((f : Int) > (j : Int)) = decide (f > j) := decide_eq_decide.2 (by omega)
  have d4 : ((f : Int) == (j : Int)) = decide (f = j) := by
    by_cases h : f = j
    · subst h; simp
    · have : ¬ (f : Int) = (j : Int) := by omega
      rw [decide_eq_false h]; simpa using this
  have f1 : (0 : Int) ≤ (f : Int) := by omega
  have f2 : (f : Int) < (s.size : Int) := by omega
  induction k with
  | zero =>
    intro q hq hfq i m hi
    obtain rfl : q = e := by omega
    obtain ⟨i, rfl⟩ : ∃ z, i = z + 1 := ⟨i - 1, by omega⟩
    rw [ref07_number_s6]
    simp only [w1, d1, d2, d3, d4, f1, f2, if_true, ref07_digit_q, obind_some, numF]
    by_cases hlt : q < s.size
    · have h1 : (q : Int) < (s.size : Int) := by omega
      have h0 : (0 : Int) ≤ (q : Int) := by omega
      simp only [h1, h0, if_true, decide_true, cond_true, hout hlt, cond_false]
      cases decide (q = f) <;> cases bt s (f : Int) == 48 <;> cases decide (q > f + 1) <;> cases decide (f > j) <;> cases decide (f = j) <;> cases m == -9223372036854775808 <;> rfl
    · have h1 : ¬ ((q : Int) < (s.size : Int)) := by omega
      simp only [h1, decide_false, cond_false]
      cases decide (q = f) <;> cases bt s (f : Int) == 48 <;> cases decide (q > f + 1) <;> cases decide (f > j) <;> cases decide (f = j) <;> cases m == -9223372036854775808 <;> rfl
  | succ k ih =>
    intro q hq hfq i m hi
    obtain ⟨i, rfl⟩ : ∃ z, i = z + 1 := ⟨i - 1, by omega⟩
    rw [ref07_number_s6, wrap_succ (show q < big by omega)]
    have h1 : (q : Int) < (s.size : Int) := by omega
    have h0 : (0 : Int) ≤ (q : Int) := by omega
    simp only [h1, h0, if_true, decide_true, cond_true, ref07_digit_q, obind_some, hin q hfq (by omega), numF_succ]
    have hd : digitMore m (bt s (q : Int)) = bif decide (m < W (Int.tdiv (W (-9223372036854775808 + W (IntKind.wrap IntKind.u8 (bt s (q : Int) - 48)))) 10)) then none
      else some (W (W (10 * m) - W (IntKind.wrap IntKind.u8 (bt s (q : Int) - 48)))) := by unfold digitMore; rfl
    rw [hd]
    cases decide (m < W (Int.tdiv (W (-9223372036854775808 + W (IntKind.wrap IntKind.u8 (bt s (q : Int) - 48)))) 10)) with
    | true => rfl
    | false => exact ih (q + 1) (by omega) (by omega) i _ (by omega)
theorem ref_number_q {n j : Nat} (hn : s.size < n) (hj : j < s.size) (hc : isDigit (bt s (j : Int)) = true ∨ (bt s (j : Int) == 45) = true) :
    ref07_number_v n s (j : Int) = tokAns j (over isDigit s (j + 1)) (numS s j (over isDigit s (j + 1))) := by
  rw [ref07_number_e]
  have h1 : (j : Int) < (s.size : Int) := by omega
  have h0 : (0 : Int) ≤ (j : Int) := by omega
  have ld := over_le (p := isDigit) (s := s) (j := j + 1) (by omega)
  have hin : ∀ i, j + 1 ≤ i → i < over isDigit s (j + 1) → isDigit (bt s (i : Int)) = true := fun i a b => over_in isDigit s _ _ i a b
  have hout : over isDigit s (j + 1) < s.size → isDigit (bt s ((over isDigit s (j + 1) : Nat) : Int)) = false := fun h => over_out isDigit s _ _ (by show over isDigit s (j + 1) < _; omega)
  generalize over isDigit s (j + 1) = e at ld hin hout ⊢
  rw [wrap_succ (by omega)]
  simp only [h1, h0, if_true]
  unfold numS
  cases h45 : bt s (j : Int) == 45 with
  | true =>
    simp only [cond_true]
    by_cases hlt : j + 1 < s.size
    · rw [ref_number_loop hs (n := n) (j := j) (f := j + 1) (e := e) hlt (by omega) ld.2 hin hout (e - (j + 1)) (j + 1) (by omega) (Nat.le_refl _) n 0 (by omega)]
      congr 1
      by_cases h2 : e ≤ j + 1
      · have : e = j + 1 := by omega
        subst this
        simp only [Nat.le_refl, decide_true, cond_true]
        cases numF s (j + 1 - (j + 1)) (j + 1) 0 <;> rfl
      · have g1 : ¬ e = j + 1 := by omega
        have g2 : j + 1 > j := by omega
        have g3 : ¬ j + 1 = j := by omega
        simp only [h2, g1, g2, g3, decide_false, decide_true, cond_false, Bool.or_true, Bool.and_true]
        cases numF s (e - (j + 1)) (j + 1) 0 <;> cases bt s ((j + 1 : Nat) : Int) == 48 <;> rfl
    · obtain ⟨m, rfl⟩ : ∃ z, n = z + 1 := ⟨n - 1, by omega⟩
      rw [ref07_number_s6]
      have g1 : ¬ (((j + 1 : Nat) : Int) < (s.size : Int)) := by omega
      have g2 : e ≤ j + 1 := by omega
      simp only [g1, decide_false, cond_false, beq_self_eq_true, cond_true, g2, decide_true]
      rfl
  | false =>
    have hd : isDigit (bt s (j : Int)) = true := by
      rcases hc with h | h
      · exact h
      · rw [h45] at h; cases h
    simp only [cond_false]
    rw [ref_number_loop hs (n := n) (j := j) (f := j) (e := e) hj (Nat.le_refl _) ld.2 (fun i a b => by
      by_cases hi : i = j
      · subst hi; exact hd
      · exact hin i (by omega) b) hout (e - j) j (by omega) (Nat.le_refl _) n 0 (by omega)]
    congr 1
    have g1 : ¬ e = j := by omega
    have g2 : ¬ j > j := by omega
    simp only [g1, g2, decide_false, decide_true, cond_false, cond_true, Bool.or_false]
    cases numF s (e - j) j 0 <;> cases bt s (j : Int) == 48 <;> cases decide (e > j + 1) <;> rfl
theorem ref_quote_q {n j : Nat} (hn : s.size < n) (hj : j < s.size) :
    ref07_quote_v n s (j : Int) = bif decide (over isPlain s (j + 1) < s.size) && bt s ((over isPlain s (j + 1) : Nat) : Int) == 34 then
      some (((4, (s.extract (j + 1) (over isPlain s (j + 1)), (0, ((j : Int), ())))), (((over isPlain s (j + 1) + 1 : Nat) : Int), ())), ())
    else tokFail := by
  rw [ref07_quote_e, wrap_succ (by omega)]
  have hl := over_le (p := isPlain) (s := s) (j := j + 1) (by omega)
  have hout : over isPlain s (j + 1) < s.size → isPlain (bt s ((over isPlain s (j + 1) : Nat) : Int)) = false := fun h => over_out isPlain s _ _ (by show over isPlain s (j + 1) < _; omega)
  obtain ⟨i, hi⟩ := run_over (F := fun i q => ref07_quote_l2 n s (j : Int) i q) (s := s) (p := isPlain) (fun i q hq hp => by
    show ref07_quote_l2 n s (j : Int) (i + 1) (q : Int) = _
    rw [ref07_quote_s2]
    have h1 : (q : Int) < (s.size : Int) := by omega
    have h0 : (0 : Int) ≤ (q : Int) := by omega
    simp only [h1, h0, if_true, decide_true, cond_true, ref07_Plain_q, obind_some, hp, wrap_succ (show q < big by omega)]) hn (show j + 1 ≤ s.size by omega)
  refine hi.trans ?_
  show ref07_quote_l2 n s (j : Int) (i + 1) ((over isPlain s (j + 1) : Nat) : Int) = _
  generalize over isPlain s (j + 1) = e at hl hout ⊢
  rw [ref07_quote_s2, wrap_succ (show j < big by omega), wrap_succ (show e < big by omega)]
  have h0 : (0 : Int) ≤ (e : Int) := by omega
  have k1 : (0 : Int) ≤ ((j + 1 : Nat) : Int) := by omega
  have k2 : ((j + 1 : Nat) : Int) ≤ (e : Int) := by omega
  have k3 : (e : Int) ≤ (s.size : Int) := by omega
  by_cases he : e < s.size
  · have h1 : (e : Int) < (s.size : Int) := by omega
    have h2 : ¬ (e : Int) ≥ (s.size : Int) := by omega
    simp only [h1, h0, h2, k1, k2, k3, he, if_true, decide_true, decide_false, cond_true, cond_false, ref07_Plain_q, obind_some, hout he, Bool.true_and, bne, Int.toNat_natCast]
    cases bt s (e : Int) == 34 <;> rfl
  · have h1 : ¬ (e : Int) < (s.size : Int) := by omega
    have h2 : (e : Int) ≥ (s.size : Int) := by omega
    simp only [h1, h2, he, decide_true, decide_false, cond_true, cond_false, Bool.false_and]
    rfl

def oneAns (j : Nat) : Option (Int × ByteArray × Int × Nat) → TokOut
  | some (k, x, v, e) => some (((k, (x, (v, ((j : Int), ())))), ((e : Int), ())), ())
  | none => tokFail
theorem extract2 {j : Nat} (hj : j + 2 ≤ s.size) (h1 : bt s (j : Int) = 58) (h2 : bt s ((j + 1 : Nat) : Int) = 45) : s.extract j (j + 2) = ByteArray.mk #[58, 45] := by
  have e1 : (s.extract j (j + 2)).size = 2 := by rw [size_ext (by omega) hj]; omega
  have b0 := bt_ext (s := s) (a := j) (b := j + 2) (k := 0) (by omega) hj
  have b1 := bt_ext (s := s) (a := j) (b := j + 2) (k := 1) (by omega) hj
  rw [show ((j + 0 : Nat) : Int) = (j : Int) from rfl, h1] at b0
  rw [h2] at b1
  generalize s.extract j (j + 2) = t at e1 b0 b1
  obtain ⟨⟨d⟩⟩ := t
  match d, e1 with
  | [a, b], _ =>
    have c0 : ((a.toNat : Nat) : Int) = 58 := b0
    have c1 : ((b.toNat : Nat) : Int) = 45 := b1
    have a0 : a = 58 := UInt8.toNat_inj.1 (by show a.toNat = 58; omega)
    have a1 : b = 45 := UInt8.toNat_inj.1 (by show b.toNat = 45; omega)
    rw [a0, a1]
theorem ref_one_q {n j : Nat} (hn : s.size < n) (hj : j < s.size) : ref07_One_v n s (j : Int) = oneAns j (oneS s j) := by
  rw [ref07_One_e]
  unfold oneS
  have h1 : (0 : Int) ≤ (j : Int) := by omega
  have h2 : (j : Int) < (s.size : Int) := by omega
  have w1 : IntKind.wrap IntKind.i64 ((j : Int) + 1) = ((j + 1 : Nat) : Int) := wrap_succ (by omega)
  have li := over_le (p := isInner) (s := s) (j := j) (by omega)
  have hout : over isInner s j < s.size → isInner (bt s ((over isInner s j : Nat) : Int)) = false := fun h => over_out isInner s _ _ (by show over isInner s j < _; omega)
  obtain ⟨i, hi⟩ := run_over (F := fun i q => ref07_One_l4 n s (j : Int) i q) (s := s) (p := isInner) (fun i q hq hp => by
    show ref07_One_l4 n s (j : Int) (i + 1) (q : Int) = _
    rw [ref07_One_s4]
    have h1 : (q : Int) < (s.size : Int) := by omega
    have h0 : (0 : Int) ≤ (q : Int) := by omega
    simp only [h1, h0, if_true, decide_true, cond_true, ref07_Inner_q, obind_some, hp, wrap_succ (show q < big by omega)]) hn (show j ≤ s.size by omega)
  have hi' : ref07_One_l4 n s (j : Int) n (j : Int) = ref07_One_l4 n s (j : Int) (i + 1) ((over isInner s j : Nat) : Int) := hi
  have word : ref07_One_l4 n s (j : Int) n (j : Int) = some ((((bif isGreat (bt s (j : Int)) then 2 else 1), (s.extract j (over isInner s j), (0, ((j : Int), ())))), (((over isInner s j : Nat) : Int), ())), ()) := by
    rw [hi']
    generalize over isInner s j = e at li hout ⊢
    rw [ref07_One_s4]
    have h0 : (0 : Int) ≤ (e : Int) := by omega
    have k2 : (j : Int) ≤ (e : Int) := by omega
    have k3 : (e : Int) ≤ (s.size : Int) := by omega
    by_cases he : e < s.size
    · have g1 : (e : Int) < (s.size : Int) := by omega
      simp only [g1, h0, h1, h2, k2, k3, if_true, decide_true, cond_true, ref07_Inner_q, ref07_great_q, obind_some, hout he, cond_false, Int.toNat_natCast]
      cases isGreat (bt s (j : Int)) <;> rfl
    · have g1 : ¬ (e : Int) < (s.size : Int) := by omega
      simp only [g1, h1, h2, k2, k3, if_true, decide_false, cond_false, ref07_great_q, obind_some, Int.toNat_natCast]
      cases isGreat (bt s (j : Int)) <;> rfl
  simp only [h1, h2, if_true, w1, ref07_small_q, ref07_great_q, ref07_digit_q, obind_some, ref_quote_q hs hn hj, word]
  cases hsm : isSmall (bt s (j : Int)) with
  | true =>
    have : isGreat (bt s (j : Int)) = false := by
      unfold isSmall at hsm; unfold isGreat
      simp only [Bool.and_eq_true, decide_eq_true_eq] at hsm
      have : ¬ bt s (j : Int) ≤ 90 := by omega
      simp [this]
    simp only [cond_true, this, cond_false]; rfl
  | false =>
  simp only [cond_false]
  cases hgr : isGreat (bt s (j : Int)) with
  | true => simp only [cond_true]; rfl
  | false =>
  simp only [cond_false]
  have num : (isDigit (bt s (j : Int)) = true ∨ (bt s (j : Int) == 45) = true) → ref07_number_v n s (j : Int) = oneAns j (match numS s j (over isDigit s (j + 1)) with
      | some m => some (3, ByteArray.mk #[], m, over isDigit s (j + 1))
      | none => none) := by
    intro h
    rw [ref_number_q hs hn hj h]
    cases numS s j (over isDigit s (j + 1)) <;> rfl
  cases hdi : isDigit (bt s (j : Int)) with
  | true =>
    simp only [cond_true, Bool.true_or, num (.inl hdi)]
    cases numS s j (over isDigit s (j + 1)) <;> rfl
  | false =>
  simp only [cond_false, Bool.false_or]
  cases h45 : bt s (j : Int) == 45 with
  | true =>
    simp only [cond_true, num (.inr h45)]
    cases numS s j (over isDigit s (j + 1)) <;> rfl
  | false =>
  simp only [cond_false]
  cases h34 : bt s (j : Int) == 34 with
  | true =>
    simp only [cond_true]
    cases (decide (over isPlain s (j + 1) < s.size) && bt s ((over isPlain s (j + 1) : Nat) : Int) == 34) <;> rfl
  | false =>
  simp only [cond_false]
  have k2 : (j : Int) ≤ ((j + 1 : Nat) : Int) := by omega
  have k3 : ((j + 1 : Nat) : Int) ≤ (s.size : Int) := by omega
  have k4 : (0 : Int) ≤ ((j + 1 : Nat) : Int) := by omega
  have hlt : decide (((j + 1 : Nat) : Int) < (s.size : Int)) = decide (j + 1 < s.size) := decide_eq_decide.2 (by omega)
  simp only [k2, k3, k4, if_true, hlt, Int.toNat_natCast]
  cases h58 : bt s (j : Int) == 58 with
  | true =>
    have hb : bt s (j : Int) = 58 := by simpa using h58
    simp only [cond_true, Bool.true_and, hb]
    by_cases hl : j + 1 < s.size
    · have k1 : ((j + 1 : Nat) : Int) < (s.size : Int) := by omega
      have w2 : IntKind.wrap IntKind.i64 ((j : Int) + 2) = ((j + 2 : Nat) : Int) := by unfold big at hs; rw [wrap_small (z := (j : Int) + 2) (by omega) (by omega)]; omega
      simp only [hl, decide_true, cond_true, k1, if_true, Bool.true_and, w2]
      cases h45' : bt s ((j + 1 : Nat) : Int) == 45 with
      | true =>
        simp only [cond_true]
        rw [extract2 hs hl hb (by simpa using h45')]; rfl
      | false => simp only [Int.reduceBEq, Bool.or_self, Bool.or_true, Bool.false_or, cond_true, cond_false]; rfl
    · simp only [hl, decide_false, Bool.false_and, Int.reduceBEq, Bool.or_self, Bool.or_true, Bool.false_or, cond_true, cond_false]; rfl
  | false =>
    simp only [cond_false, Bool.false_and, Bool.or_false]
    cases bt s (j : Int) == 40 <;> cases bt s (j : Int) == 41 <;> cases bt s (j : Int) == 44 <;> cases bt s (j : Int) == 46 <;> rfl
end
end Go.Den
