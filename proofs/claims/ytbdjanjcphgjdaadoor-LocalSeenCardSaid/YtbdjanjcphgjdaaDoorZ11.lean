import Derived.Test.YtbdjanjcphgjdaaDoorZ10
set_option linter.unusedVariables false
set_option linter.unusedSimpArgs false
set_option linter.unusedSectionVars false
namespace Go.Den
open Go.Proofs Go.Lib
theorem nDigits_le : ∀ k u : Nat, 1 ≤ k → u < 10 ^ k → nDigits u ≤ k
  | 0, u, h, _ => by omega
  | k + 1, u, _, h => by
    by_cases hu : u < 10
    · rw [nDigits_small hu]; omega
    · rw [nDigits_big hu]
      have hk : 1 ≤ k := by
        cases k with
        | zero => simp at h; omega
        | succ k => omega
      rw [Nat.pow_succ] at h
      have := nDigits_le k (u / 10) hk (by omega)
      omega
section
variable {n : Nat} {j0 : Int}
def plainS (s : ByteArray) : Bool := decide (over isPlain s 0 = s.size)
theorem plain_loop {s : ByteArray} (hs : s.size ≤ 140737488351232) : ∀ k q : Nat, q + k = s.size → ∀ f, k < f → show_plain_l2 n s f (q : Int) = some (decide (over isPlain s q = s.size) && (decide (1 ≤ s.size) && decide (s.size ≤ 32)), ()) := by
  intro k
  induction k with
  | zero =>
    intro q hq f hf
    obtain ⟨f, rfl⟩ : ∃ z, f = z + 1 := ⟨f - 1, by omega⟩
    rw [show_plain_s2, over_end (by omega)]
    have h1 : ¬ ((q : Int) < (s.size : Int)) := by omega
    have h2 : q = s.size := by omega
    simp only [h1, decide_false, cond_false, h2, decide_true, Bool.true_and]
    by_cases h3 : (s.size : Int) ≥ 1
    · have h4 : 1 ≤ s.size := by omega
      have h5 : decide ((s.size : Int) ≤ 32) = decide (s.size ≤ 32) := decide_eq_decide.2 (by omega)
      simp [h3, h4, h5]
    · have h4 : ¬ 1 ≤ s.size := by omega
      simp [h3, h4]
  | succ k ih =>
    intro q hq f hf
    obtain ⟨f, rfl⟩ : ∃ z, f = z + 1 := ⟨f - 1, by omega⟩
    have h1 : (q : Int) < (s.size : Int) := by omega
    have h0 : (0 : Int) ≤ (q : Int) := by omega
    have hne : ¬ q = s.size := by omega
    rw [show_plain_s2, wrap_succ (show q < big by unfold big; omega)]
    simp only [h1, h0, decide_true, cond_true, if_true]
    by_cases c1 : bt s (q : Int) < 32
    · have hp : isPlain (bt s (q : Int)) = false := by
        unfold isPlain
        have h32 : ¬ bt s (q : Int) ≥ 32 := by omega
        simp [h32]
      rw [over_stop hp]
      simp [c1, hne]
    · by_cases c2 : bt s (q : Int) > 126
      · have hp : isPlain (bt s (q : Int)) = false := by
          unfold isPlain
          have h126 : ¬ bt s (q : Int) ≤ 126 := by omega
          simp [h126]
        rw [over_stop hp]
        simp [c1, c2, hne]
      · cases c3 : bt s (q : Int) == 34 with
        | true =>
          have hp : isPlain (bt s (q : Int)) = false := by
            unfold isPlain
            have h34 : bt s (q : Int) = 34 := by simpa using c3
            rw [h34]; rfl
          rw [over_stop hp]
          simp [c1, c2, hne]
        | false =>
          cases c4 : bt s (q : Int) == 92 with
          | true =>
            have hp : isPlain (bt s (q : Int)) = false := by
              unfold isPlain
              have h92 : bt s (q : Int) = 92 := by simpa using c4
              rw [h92]; rfl
            rw [over_stop hp]
            simp [c1, c2, hne]
          | false =>
            have hp : isPlain (bt s (q : Int)) = true := by
              unfold isPlain
              have a1 : bt s (q : Int) ≥ 32 := by omega
              have a2 : bt s (q : Int) ≤ 126 := by omega
              have a3 : (bt s (q : Int) != 34) = true := by simp [bne, c3]
              have a4 : (bt s (q : Int) != 92) = true := by simp [bne, c4]
              simp only [a1, a2, a3, a4, decide_true, Bool.true_and]
            rw [over_step (by omega) hp]
            simp only [c1, c2, decide_false, cond_false]
            exact ih (q + 1) (by omega) f (by omega)
theorem plain_q {s : ByteArray} (hs : s.size ≤ 140737488351232) (hsn : s.size < n) : show_plain_v n s = some (plainS s && (decide (1 ≤ s.size) && decide (s.size ≤ 32)), ()) := by
  rw [show_plain_e]
  exact plain_loop hs s.size 0 (by omega) n (by omega)
def shownS (s : ByteArray) : (ByteArray × Int × Unit) × Unit :=
  bif namedS isSmall s && !keptS s then ((s, (0, ())), ()) else ((ByteArray.mk #[34] ++ s ++ ByteArray.mk #[34], (0, ())), ())
def termS (s0 : ByteArray) (b1 : Bool) (j2 : Int) (s3 : ByteArray) : (ByteArray × Int × Unit) × Unit :=
  bif !s0 == noB then
    bif b1 == false && (j2 == 0 && s3 == noB) && namedS isGreat s0 then ((s0, (0, ())), ()) else ((noB, (100, ())), ())
  else bif b1 then
    bif s3 == noB then ((⟨(itoa j2).toArray⟩, (0, ())), ()) else ((noB, (100, ())), ())
  else bif j2 == 0 && (plainS s3 && (decide (1 ≤ s3.size) && decide (s3.size ≤ 32))) then shownS s3 else ((noB, (100, ())), ())
theorem show_Term_q {s0 s3 : ByteArray} {b1 : Bool} {j2 : Int} (hlo : -9223372036854775808 ≤ j2) (hhi : j2 ≤ 9223372036854775807) (hs : s3.size ≤ 140737488351232) (hsn : s3.size < n) (hn : 10000 < n) : show_Term_v n s0 b1 j2 s3 = some (termS s0 b1 j2 s3) := by
  rw [show_Term_e]
  unfold termS
  have hi : strconv_Itoa_v n j2 = some (⟨(itoa j2).toArray⟩, ()) := by unfold strconv_Itoa_v; simp [hlo, hhi]
  have c1 : 1 + s3.size < 4611686018427387904 := by omega
  have c2 : ByteArray.size (ByteArray.mk #[34] ++ s3) + 1 < 4611686018427387904 := by
    rw [ByteArray.size_append]
    have : (ByteArray.mk #[34]).size = 1 := rfl
    omega
  simp only [show_variable_q hn, show_word_q hn, plain_q hs hsn, hi, obind_some, c1, c2, if_true]
  cases hz : s0 == noB with
  | false =>
    simp only [Bool.not_false, cond_true]
    cases b1 <;> cases j2 == 0 <;> cases s3 == noB <;> cases namedS isGreat s0 <;> rfl
  | true =>
    simp only [Bool.not_true, cond_false]
    cases b1 with
    | true => cases s3 == noB <;> simp_all
    | false =>
      simp only [cond_false, bne]
      cases j2 == 0 with
      | false => rfl
      | true =>
        cases plainS s3 && (decide (1 ≤ s3.size) && decide (s3.size ≤ 32)) with
        | false => rfl
        | true =>
          simp only [shownS]
          cases namedS isSmall s3 && !keptS s3 <;> rfl
end
end Go.Den
