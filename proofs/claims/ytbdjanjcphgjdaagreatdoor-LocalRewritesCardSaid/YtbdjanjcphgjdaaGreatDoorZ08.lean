import Derived.Test.YtbdjanjcphgjdaaGreatDoorZ07
set_option linter.unusedVariables false
set_option linter.unusedSimpArgs false
set_option linter.unusedSectionVars false
namespace Go.Den
open Go.Proofs
def numT (t : ByteArray) : Option Int :=
 bif bt t 0 == 45 then
  bif decide (t.size ≤ 1) then none
  else bif bt t 1 == 48 then none
  else numF t (t.size - 1) 1 0
 else bif bt t 0 == 48 && decide (t.size > 1) then none
 else match numF t t.size 0 0 with
  |some m => bif m == -9223372036854775808 then none else some (W (0 - m))
  |none => none
theorem size_zero {t : ByteArray} : (t == ByteArray.mk #[]) = decide (t.size = 0) := by
 cases t with | mk d =>
 show (d == #[]) = decide (d.size = 0)
 cases h : d == #[] with
 |true => have := eq_of_beq h; subst this; rfl
 |false =>
  symm; rw [decide_eq_false_iff_not]
  intro h0
  have := Array.eq_empty_of_size_eq_zero h0
  subst this; cases h
theorem z67_q {n : Nat} {t : ByteArray} (ht : t.size < big) (h0 : 0 < t.size) (hn : t.size < n) :
  ∃ v, z67_v n t = some ((v, ((numT t).isSome, ())), ()) ∧ ∀ q, numT t = some q → v = q := by
 rw [z67_e]
 unfold numT
 have h1 : (0 : Int) < (t.size : Int) := by omega
 simp only [h1, if_true, size_zero]
 cases h45 : bt t 0 == 45 with
 |true =>
  have g1 : (1 : Int) ≤ (t.size : Int) := by omega
  have g2 : (t.size : Int) ≤ (t.size : Int) := Int.le_refl _
  simp only [g1, g2, if_true, cond_true, Int.toNat_natCast]
  have e1 : (t.extract 1 t.size).size = t.size - 1 := size_ext (by omega) (Nat.le_refl _)
  by_cases hle : t.size ≤ 1
  ·simp only [e1, hle, decide_true, cond_true, show t.size - 1 = 0 from by omega]
   exact ⟨_, rfl, fun q hq => by cases hq⟩
  ·have g3 : ¬ (t.size - 1 = 0) := by omega
   have g4 : (0 : Int) < ((t.size - 1 : Nat) : Int) := by omega
   have b0 : bt (t.extract 1 t.size) 0 = bt t 1 := by
    have := bt_ext (s := t) (a := 1) (b := t.size) (k := 0) (by omega) (Nat.le_refl _)
    simpa using this
   simp only [e1, g3, g4, hle, decide_false, cond_false, if_true, b0]
   cases h48 : bt t 1 == 48 with
   |true => exact ⟨0, rfl, fun q hq => by cases hq⟩
   |false =>
    simp only [cond_false]
    have hsz : (t.extract 1 t.size).size < big := by omega
    obtain ⟨v, hv, hq⟩ := z67_loop (n := n) (s0 := t) hsz (t.size - 1) 0 (by omega) n 0 (by omega)
    have hc : numF (t.extract 1 t.size) (t.size - 1) 0 0 = numF t (t.size - 1) 1 0 :=
     numF_congr _ fun i hi => by rw [Nat.zero_add]; exact bt_ext (by omega) (Nat.le_refl _)
    rw [e1] at hv
    rw [hc] at hv hq
    rw [h45] at hv hq
    refine ⟨v, ?_, fun q h => by rw [hq q h]; rfl⟩
    first
     |(rw [show ((0 : Nat) : Int) = 0 from rfl] at hv; rw [hv]; cases numF t (t.size - 1) 1 0 <;> rfl)
 |false =>
  have g3 : ¬ (t.size = 0) := by omega
  simp only [g3, decide_false, cond_false]
  have hdec : decide ((t.size : Int) > 1) = decide (t.size > 1) := by
   by_cases h : t.size > 1
   ·have : (t.size : Int) > 1 := by omega
    simp [h, this]
   ·have : ¬ (t.size : Int) > 1 := by omega
    simp [h, this]
  obtain ⟨v, hv, hq⟩ := z67_loop (n := n) (s0 := t) ht t.size 0 (by omega) n 0 hn
  rw [h45] at hv hq
  rw [show ((0 : Nat) : Int) = 0 from rfl] at hv
  have fin : ∃ v, z67_l8 n t n t (t.size : Int) 0 0 = some ((v, ((match numF t t.size 0 0 with
     |some m => bif m == -9223372036854775808 then none else some (W (0 - m))
     |none => none : Option Int).isSome, ())), ()) ∧ ∀ q, (match numF t t.size 0 0 with
     |some m => bif m == -9223372036854775808 then none else some (W (0 - m))
     |none => none : Option Int) = some q → v = q := by
   refine ⟨v, ?_, ?_⟩
   ·rw [hv]
    cases numF t t.size 0 0 with
    |none => rfl
    |some m => simp only [Bool.false_or, bne]; cases m == -9223372036854775808 <;> rfl
   ·intro q h
    cases hm : numF t t.size 0 0 with
    |none => rw [hm] at h; cases h
    |some m =>
     rw [hm] at h
     simp only at h
     rw [hq m hm]
     cases hb : m == -9223372036854775808 with
     |true => rw [hb] at h; cases h
     |false => rw [hb] at h; cases h; rfl
  cases h48 : bt t 0 == 48 with
  |true =>
   simp only [cond_true, hdec, Bool.true_and]
   by_cases h2 : t.size > 1
   ·simp only [h2, decide_true, cond_true]; exact ⟨0, rfl, fun q hq => by cases hq⟩
   ·simp only [h2, decide_false, cond_false]; exact fin
  |false =>
   simp only [cond_false, Bool.false_and]
   exact fin
theorem numT_ext {s : ByteArray} {a e : Nat} (h1 : a < e) (h2 : e ≤ s.size) : numT (s.extract a e) = numS s a e := by
 unfold numT numS
 have e1 : (s.extract a e).size = e - a := size_ext (by omega) h2
 have b0 : bt (s.extract a e) 0 = bt s (a : Int) := by
  have := bt_ext (s := s) (a := a) (b := e) (k := 0) (by omega) h2
  simpa using this
 rw [e1, b0]
 have d1 : decide (e - a ≤ 1) = decide (e ≤ a + 1) := by
  by_cases h : e ≤ a + 1
  ·have : e - a ≤ 1 := by omega
   simp [h, this]
  ·have : ¬ e - a ≤ 1 := by omega
   simp [h, this]
 have d2 : decide (e - a > 1) = decide (e > a + 1) := by
  by_cases h : e > a + 1
  ·have : e - a > 1 := by omega
   simp [h, this]
  ·have : ¬ e - a > 1 := by omega
   simp [h, this]
 rw [d1, d2]
 have c0 : numF (s.extract a e) (e - a) 0 0 = numF s (e - a) a 0 :=
  numF_congr _ fun i hi => by rw [Nat.zero_add]; exact bt_ext (by omega) h2
 rw [c0]
 by_cases hle : e ≤ a + 1
 ·simp only [hle, decide_true, cond_true]
  cases numF s (e - a) a 0 <;> rfl
 ·have b1 : bt (s.extract a e) 1 = bt s ((a + 1 : Nat) : Int) := by
   have := bt_ext (s := s) (a := a) (b := e) (k := 1) (by omega) h2
   simpa using this
  have c1 : numF (s.extract a e) (e - a - 1) 1 0 = numF s (e - (a + 1)) (a + 1) 0 := by
   rw [show e - a - 1 = e - (a + 1) from by omega]
   exact numF_congr _ fun i hi => by
    rw [bt_ext (s := s) (by omega) h2, show a + (1 + i) = a + 1 + i from by omega]
  rw [b1, c1]
  cases numF s (e - a) a 0 <;> rfl

section
variable {s : ByteArray} (hs : s.size < big)
include hs
theorem z54_q {n j : Nat} (hn : s.size < n) (hj : j < s.size) :
  z54_v n s (j : Int) = bif decide (over isPlain s (j + 1) < s.size) && bt s ((over isPlain s (j + 1) : Nat) : Int) == 34 then
   some ((s.extract (j + 1) (over isPlain s (j + 1)), (((over isPlain s (j + 1) + 1 : Nat) : Int), (true, ()))), ())
  else some ((ByteArray.mk #[], (0, (false, ()))), ()) := by
 rw [z54_e, wrap_succ (by omega), over_plain_q hs hn (by omega)]
 simp only [obind_some]
 have hl := over_le (p := isPlain) (s := s) (j := j + 1) (by omega)
 generalize over isPlain s (j + 1) = e at hl ⊢
 by_cases he : e < s.size
 ·have h1 : ¬ ((e : Int) ≥ (s.size : Int)) := by omega
  have h2 : (0 : Int) ≤ (e : Int) := by omega
  have h3 : (e : Int) < (s.size : Int) := by omega
  have h4 : (0 : Int) ≤ ((j + 1 : Nat) : Int) := by omega
  have h5 : ((j + 1 : Nat) : Int) ≤ (e : Int) := by omega
  have h6 : (e : Int) ≤ (s.size : Int) := by omega
  rw [wrap_succ (by omega)]
  simp only [h1, h2, h3, h4, h5, h6, he, decide_false, decide_true, cond_false, if_true, Bool.true_and, bne, Int.toNat_natCast]
  cases bt s (e : Int) == 34 <;> rfl
 ·have h1 : ((e : Int) ≥ (s.size : Int)) := by omega
  simp only [h1, he, decide_true, decide_false, cond_true, Bool.false_and, cond_false]

theorem z93_q {n j : Nat} (hn : s.size < n) (hj : j < s.size) :
  match oneS s j with
  |some (k, x, v, e) => (if x.size > 32 then ∃ t, z93_v n s (j : Int) = some ((t, (0, (71, ()))), ()) else z93_v n s (j : Int) = some (((k, (x, (v, ((j : Int), ())))), ((e : Int), (0, ()))), ()))
  |none => ∃ t, z93_v n s (j : Int) = some ((t, (0, (70, ()))), ()) := by
 rw [z93_e]
 unfold oneS
 have h1 : (0 : Int) ≤ (j : Int) := by omega
 have h2 : (j : Int) < (s.size : Int) := by omega
 have w1 : IntKind.wrap IntKind.i64 ((j : Int) + 1) = ((j + 1 : Nat) : Int) := wrap_succ (by omega)
 have li := over_le (p := isInner) (s := s) (j := j) (by omega)
 have ld := over_le (p := isDigit) (s := s) (j := j + 1) (by omega)
 simp only [h1, h2, if_true, w1, z73_q, z81_q, z84_q, obind_some, over_inner_q hs hn (Nat.le_of_lt hj), over_digit_q hs hn (show j + 1 ≤ s.size from hj), z54_q hs hn hj]
 have i1 : (j : Int) ≤ ((over isInner s j : Nat) : Int) := by omega
 have i2 : ((over isInner s j : Nat) : Int) ≤ (s.size : Int) := by omega
 have i3 : (j : Int) ≤ ((over isDigit s (j + 1) : Nat) : Int) := by omega
 have i4 : ((over isDigit s (j + 1) : Nat) : Int) ≤ (s.size : Int) := by omega
 have big32 : ∀ x : ByteArray, decide ((x.size : Int) > 32) = decide (x.size > 32) := fun x => by
  by_cases h : x.size > 32
  ·have : (x.size : Int) > 32 := by omega
   simp [h, this]
  ·have : ¬ (x.size : Int) > 32 := by omega
   simp [h, this]
 simp only [i1, i2, i3, i4, if_true, Int.toNat_natCast, big32]
 have word : ∀ kd : Int, ∀ r : Option ((((Int × ByteArray × Int × Int × Unit) × Int × Int × Unit)) × Unit),
   r = (bif decide ((s.extract j (over isInner s j)).size > 32) then some (((kd, (s.extract j (over isInner s j), (0, ((j : Int), ())))), (0, (71, ()))), ())
    else some (((kd, (s.extract j (over isInner s j), (0, ((j : Int), ())))), (((over isInner s j : Nat) : Int), (0, ()))), ())) →
   (if (s.extract j (over isInner s j)).size > 32 then ∃ t, r = some ((t, (0, (71, ()))), ()) else r = some (((kd, (s.extract j (over isInner s j), (0, ((j : Int), ())))), (((over isInner s j : Nat) : Int), (0, ()))), ())) := by
  intro kd r hr
  by_cases h : (s.extract j (over isInner s j)).size > 32
  ·rw [if_pos h, hr]; simp only [h, decide_true, cond_true]; exact ⟨_, rfl⟩
  ·rw [if_neg h, hr]; simp only [h, decide_false, cond_false]
 cases hsm : isSmall (bt s (j : Int)) with
 |true => simp only [cond_true]; exact word 1 _ rfl
 |false =>
 simp only [cond_false]
 cases hgr : isGreat (bt s (j : Int)) with
 |true => simp only [cond_true]; exact word 2 _ rfl
 |false =>
 simp only [cond_false]
 have e1 : (s.extract j (over isDigit s (j + 1))).size = over isDigit s (j + 1) - j := size_ext (by omega) ld.2
 obtain ⟨v, hv, hq⟩ := z67_q (n := n) (t := s.extract j (over isDigit s (j + 1))) (by omega) (by omega) (by omega)
 rw [numT_ext (by omega) ld.2] at hv hq
 simp only [hv, obind_some]
 have num : ∀ r : Option ((((Int × ByteArray × Int × Int × Unit) × Int × Int × Unit)) × Unit),
   r = (bif (!(numS s j (over isDigit s (j + 1))).isSome) then some (((0, (ByteArray.mk #[], (0, ((j : Int), ())))), (0, (70, ()))), ())
    else some (((3, (ByteArray.mk #[], (v, ((j : Int), ())))), (((over isDigit s (j + 1) : Nat) : Int), (0, ()))), ())) →
   (match (match numS s j (over isDigit s (j + 1)) with
    |some m => some ((3 : Int), ByteArray.mk #[], m, over isDigit s (j + 1))
    |none => none) with
   |some (k, x, v, e) => (if x.size > 32 then ∃ t, r = some ((t, (0, (71, ()))), ()) else r = some (((k, (x, (v, ((j : Int), ())))), ((e : Int), (0, ()))), ()))
   |none => ∃ t, r = some ((t, (0, (70, ()))), ())) := by
  intro r hr
  cases hm : numS s j (over isDigit s (j + 1)) with
  |none =>
   rw [hm] at hr
   exact ⟨_, hr⟩
  |some m =>
   rw [hm] at hr
   have := hq m hm
   subst this
   simp only
   rw [if_neg (by decide)]
   exact hr
 cases hdi : isDigit (bt s (j : Int)) with
 |true => simp only [cond_true, Bool.true_or]; exact num _ rfl
 |false =>
 simp only [cond_false, Bool.false_or]
 cases h45 : bt s (j : Int) == 45 with
 |true => simp only [cond_true]; exact num _ rfl
 |false =>
 simp only [cond_false]
 cases h34 : bt s (j : Int) == 34 with
 |true =>
  simp only [cond_true]
  cases hc : (decide (over isPlain s (j + 1) < s.size) && bt s ((over isPlain s (j + 1) : Nat) : Int) == 34) with
  |false => simp only [cond_false, obind_some, Bool.not_false, cond_true]; exact ⟨_, rfl⟩
  |true =>
   simp only [cond_true, obind_some, Bool.not_true, cond_false]
   by_cases h : (s.extract (j + 1) (over isPlain s (j + 1))).size > 32
   ·rw [if_pos h]; simp only [h, decide_true, cond_true]; exact ⟨_, rfl⟩
   ·rw [if_neg h]; simp only [h, decide_false, cond_false]
 |false =>
 simp only [cond_false]
 have k2 : (j : Int) ≤ ((j + 1 : Nat) : Int) := by omega
 have k3 : ((j + 1 : Nat) : Int) ≤ (s.size : Int) := by omega
 have k4 : (0 : Int) ≤ ((j + 1 : Nat) : Int) := by omega
 have x1 : ¬ (s.extract j (j + 1)).size > 32 := by rw [size_ext (by omega) hj]; omega
 have hlt : decide (((j + 1 : Nat) : Int) < (s.size : Int)) = decide (j + 1 < s.size) := decide_eq_decide.2 (by omega)
 simp only [k2, k3, k4, if_true, x1, decide_false, cond_false, if_false, hlt]
 cases h58 : bt s (j : Int) == 58 with
 |true =>
  have hb : bt s (j : Int) = 58 := by simpa using h58
  simp only [cond_true, Bool.true_and, hb]
  by_cases hl : j + 1 < s.size
  ·have k1 : ((j + 1 : Nat) : Int) < (s.size : Int) := by omega
   have w2 : IntKind.wrap IntKind.i64 (((j + 1 : Nat) : Int) + 1) = ((j + 2 : Nat) : Int) := wrap_succ (by omega)
   have k5 : (j : Int) ≤ ((j + 2 : Nat) : Int) := by omega
   have k6 : ((j + 2 : Nat) : Int) ≤ (s.size : Int) := by omega
   have x2 : ¬ (s.extract j (j + 2)).size > 32 := by rw [size_ext (by omega) (by omega)]; omega
   simp only [hl, decide_true, cond_true, k1, if_true, Bool.true_and, w2, k5, k6, Int.toNat_natCast, x2, decide_false, cond_false]
   cases h45' : bt s ((j + 1 : Nat) : Int) == 45 with
   |true => simp only [cond_true, x2, if_false]
   |false => simp only [Int.reduceBEq, Bool.or_self, Bool.or_true, Bool.false_or, cond_true, cond_false, x1, if_false]
  ·simp only [hl, decide_false, Bool.false_and, Int.reduceBEq, Bool.or_self, Bool.or_true, Bool.false_or, cond_true, cond_false, x1, if_false]
 |false =>
  simp only [cond_false, Bool.false_and, Bool.or_false]
  cases bt s (j : Int) == 40 <;> cases bt s (j : Int) == 41 <;> cases bt s (j : Int) == 44 <;> cases bt s (j : Int) == 46 <;> simp only [Bool.or_self, Bool.or_true, Bool.true_or, Bool.false_or, Bool.or_false, cond_true, cond_false, x1, if_false] <;> exact ⟨_, rfl⟩
end
end Go.Den
