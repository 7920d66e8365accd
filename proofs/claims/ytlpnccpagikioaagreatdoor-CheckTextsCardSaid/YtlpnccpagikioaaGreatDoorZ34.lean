import Derived.Test.YtlpnccpagikioaaGreatDoorZ33
import Derived.Test.YtlpnccpagikioaaGreatDoorZ22
set_option linter.unusedVariables false
set_option linter.unusedSimpArgs false
set_option linter.unusedSectionVars false
namespace Go.Den
open Go.Proofs
theorem ite_range {c : Prop} [Decidable c] {m : Int} (h0 : 0 ≤ m) (h1 : m < 18446744073709551616) (hc : c ↔ m ≥ 9223372036854775808) : -9223372036854775808 ≤ (if c then m - 18446744073709551616 else m) ∧ (if c then m - 18446744073709551616 else m) ≤ 9223372036854775807 := by
  by_cases h : c
  · rw [if_pos h]; have := hc.1 h; omega
  · rw [if_neg h]; have : ¬ m ≥ 9223372036854775808 := fun e => h (hc.2 e); omega
theorem W_range (z : Int) : -9223372036854775808 ≤ W z ∧ W z ≤ 9223372036854775807 :=
  ite_range (m := z % 18446744073709551616) (Int.emod_nonneg _ (by decide)) (Int.emod_lt_of_pos _ (by decide)) (by
    show (true && decide (z % 18446744073709551616 ≥ 9223372036854775808)) = true ↔ _
    rw [Bool.true_and, decide_eq_true_eq])
structure GoodT (k : Int) (x : ByteArray) (v : Int) : Prop where
  small : k = 1 → namedS isSmall x = true
  great : k = 2 → namedS isGreat x = true
  num : -9223372036854775808 ≤ v ∧ v ≤ 9223372036854775807
  quote : k = 4 → plainS x = true ∧ x.size ≤ 32
@[reducible] def Good (r : Row) : Prop := GoodT (Row.I r 0) (Row.S r 1) (Row.I r 2)
theorem ne_of {a b : Int} {p : Prop} (h : (a == b) = false) : a = b → p := fun e => by rw [e] at h; simp at h
theorem over_all {p : Int → Bool} {s : ByteArray} {j e : Nat} (he : e ≤ s.size) (hj : j ≤ e) (h : ∀ i : Nat, j ≤ i → i < e → p (bt s (i : Int)) = true) : over p (s.extract j e) 0 = (s.extract j e).size := by
  have hz := size_ext hj he
  refine over_unique (Nat.zero_le _) (Nat.le_refl _) (fun i a b => ?_) (fun h => absurd h (Nat.lt_irrefl _))
  rw [bt_ext (by omega) he]
  exact h _ (by omega) (by omega)
theorem over_between {p : Int → Bool} {s : ByteArray} : ∀ (k j : Nat), j + k = s.size → ∀ i : Nat, j ≤ i → i < over p s j → p (bt s (i : Int)) = true
  | 0, j, hk, i, h1, h2 => by
    have := over_le (p := p) (s := s) (j := j) (by omega)
    omega
  | k + 1, j, hk, i, h1, h2 => by
    cases hp : p (bt s (j : Int)) with
    | false => rw [over_stop hp] at h2; omega
    | true =>
      by_cases hij : i = j
      · rw [hij]; exact hp
      · rw [over_step (by omega) hp] at h2
        exact over_between k (j + 1) (by omega) i (by omega) h2
theorem numF_range {s : ByteArray} : ∀ (k j : Nat) (n m : Int), (-9223372036854775808 ≤ n ∧ n ≤ 9223372036854775807) → numF s k j n = some m → -9223372036854775808 ≤ m ∧ m ≤ 9223372036854775807
  | 0, j, n, m, hn, h => by cases h; exact hn
  | k + 1, j, n, m, hn, h => by
    rw [numF_succ] at h
    cases hd : digitMore n (bt s (j : Int)) with
    | none => rw [hd] at h; cases h
    | some q =>
      rw [hd] at h
      refine numF_range k (j + 1) q m ?_ h
      unfold digitMore at hd
      cases hdd : decide (n < W (Int.tdiv (W (-9223372036854775808 + W (IntKind.wrap IntKind.u8 (bt s (j : Int) - 48)))) 10)) with
      | true => rw [hdd] at hd; cases hd
      | false =>
        rw [hdd] at hd
        simp only [cond_false, Option.some.injEq] at hd
        rw [← hd]; exact W_range _
theorem one_good {s : ByteArray} {j : Nat} (hj : j < s.size) {kd v : Int} {x : ByteArray} {e : Nat} (h : oneS s j = some (kd, x, v, e)) (hx : ¬ x.size > 32) : GoodT kd x v := by
  have li := over_le (p := isInner) (s := s) (j := j) (by omega)
  have lp := over_le (p := isPlain) (s := s) (j := j + 1) (by omega)
  have hinner : ∀ q : Int → Bool, (q = isSmall ∨ q = isGreat) → q (bt s (j : Int)) = true → namedS q (s.extract j (over isInner s j)) = true ∨ (s.extract j (over isInner s j)).size > 32 := fun q hq hb => by
    by_cases h32 : (s.extract j (over isInner s j)).size > 32
    · exact .inr h32
    · left
      have hi : isInner (bt s (j : Int)) = true := by
        rcases hq with rfl | rfl
        · unfold isInner; rw [hb]; rfl
        · unfold isInner; rw [hb]; simp
      have hgt := over_gt hj hi
      have hz := size_ext (s := s) (a := j) (b := over isInner s j) (by omega) li.2
      have ho := over_all (p := isInner) li.2 li.1 (fun i a b => over_between (s.size - j) j (by omega) i a b)
      have hb0 : bt (s.extract j (over isInner s j)) 0 = bt s (j : Int) := bt_ext (s := s) (a := j) (b := over isInner s j) (k := 0) (by omega) li.2
      unfold namedS
      rw [hb0, hb, decide_eq_true ho, decide_eq_true (by omega), decide_eq_true (by omega)]; rfl
  unfold oneS at h
  cases h1 : isSmall (bt s (j : Int)) with
  | true =>
    rw [h1] at h
    cases h
    rcases hinner isSmall (.inl rfl) h1 with h2 | h2
    · exact ⟨fun _ => h2, ne_of rfl, by omega, ne_of rfl⟩
    · exact absurd h2 hx
  | false =>
    rw [h1] at h
    cases h2 : isGreat (bt s (j : Int)) with
    | true =>
      rw [h2] at h
      cases h
      rcases hinner isGreat (.inr rfl) h2 with h3 | h3
      · exact ⟨ne_of rfl, fun _ => h3, by omega, ne_of rfl⟩
      · exact absurd h3 hx
    | false =>
      rw [h2] at h
      simp only [cond_false] at h
      cases h3 : (isDigit (bt s (j : Int)) || bt s (j : Int) == 45) with
      | true =>
        rw [h3] at h
        simp only [cond_true] at h
        split at h
        · rename_i m hm
          cases h
          refine ⟨ne_of rfl, ne_of rfl, ?_, ne_of rfl⟩
          show _ ≤ v ∧ v ≤ _
          unfold numS at hm
          cases c1 : bt s (j : Int) == 45 with
          | true =>
            rw [c1] at hm
            simp only [cond_true] at hm
            cases c2 : decide (over isDigit s (j + 1) ≤ j + 1) with
            | true => rw [c2] at hm; cases hm
            | false =>
              rw [c2] at hm
              cases c3 : bt s ((j + 1 : Nat) : Int) == 48 with
              | true => rw [c3] at hm; cases hm
              | false => rw [c3] at hm; exact numF_range _ _ 0 _ (by omega) hm
          | false =>
            rw [c1] at hm
            simp only [cond_false] at hm
            cases c2 : (bt s (j : Int) == 48 && decide (over isDigit s (j + 1) > j + 1)) with
            | true => rw [c2] at hm; cases hm
            | false =>
              rw [c2] at hm
              simp only [cond_false] at hm
              split at hm
              · rename_i m' _
                cases c3 : m' == -9223372036854775808 with
                | true => rw [c3] at hm; cases hm
                | false => rw [c3] at hm; cases hm; exact W_range _
              · cases hm
        · cases h
      | false =>
        rw [h3] at h
        simp only [cond_false] at h
        have sgn : ∀ y : ByteArray, GoodT 5 y 0 := fun y => ⟨ne_of rfl, ne_of rfl, by omega, ne_of rfl⟩
        cases h4 : bt s (j : Int) == 34 with
        | true =>
          rw [h4] at h
          simp only [cond_true] at h
          cases h5 : (decide (over isPlain s (j + 1) < s.size) && bt s ((over isPlain s (j + 1) : Nat) : Int) == 34) with
          | true =>
            rw [h5] at h
            cases h
            have ho := over_all (p := isPlain) lp.2 lp.1 (fun i a b => over_between (s.size - (j + 1)) (j + 1) (by omega) i a b)
            exact ⟨ne_of rfl, ne_of rfl, by omega, fun _ => ⟨decide_eq_true ho, by show ByteArray.size _ ≤ 32; omega⟩⟩
          | false => rw [h5] at h; cases h
        | false =>
          rw [h4] at h
          simp only [cond_false] at h
          cases h5 : (bt s (j : Int) == 58 && (decide (j + 1 < s.size) && bt s ((j + 1 : Nat) : Int) == 45)) with
          | true => rw [h5] at h; cases h; exact sgn _
          | false =>
            rw [h5] at h
            simp only [cond_false] at h
            cases h6 : (bt s (j : Int) == 40 || (bt s (j : Int) == 41 || (bt s (j : Int) == 44 || (bt s (j : Int) == 46 || bt s (j : Int) == 58)))) with
            | true => rw [h6] at h; cases h; exact sgn _
            | false => rw [h6] at h; cases h
theorem tokF_good {s : ByteArray} : ∀ k j l, tokF s k j = .ok l → ∀ r ∈ l, Good r
  | 0, j, l, h, r, hr => by cases h; cases hr
  | k + 1, j, l, h, r, hr => by
    unfold tokF at h
    split at h
    · rename_i hj
      split at h
      · cases h
      · rename_i kd x v e ho
        split at h
        · cases h
        · rename_i hx
          split at h
          · rename_i l' hl'
            cases h
            rcases List.mem_cons.1 hr with rfl | hr
            · exact one_good hj ho hx
            · exact tokF_good k _ l' hl' r hr
          · cases h
    · cases h; cases hr
theorem tokensE_good {s : ByteArray} {l : Rows} (h : tokensE s = .ok l) : ∀ r ∈ l, Good r := by
  unfold tokensE at h
  split at h
  · cases h
  · exact tokF_good _ _ l h
@[reducible] def GoodR (R : Rows) : Prop := ∀ r ∈ R, Good r
theorem GoodR.tail {R : Rows} (h : GoodR R) : GoodR R.tail := fun r hr => h r (List.mem_of_mem_tail hr)
theorem kd_good {R : Rows} (h : GoodR R) (hk : kd R ≠ 0) : ∃ r R', R = r :: R' ∧ Good r ∧ kd R = Row.I r 0 ∧ Den.tx R = Row.S r 1 ∧ nm R = Row.I r 2 := by
  cases R with
  | nil => exact absurd rfl hk
  | cons r R => exact ⟨r, R, rfl, h r List.mem_cons_self, rfl, rfl, rfl⟩
theorem inner_plain {c : Int} (h : isInner c = true) : isPlain c = true := by
  unfold isInner isSmall isGreat isDigit at h
  simp only [Bool.or_eq_true, Bool.and_eq_true, decide_eq_true_eq, beq_iff_eq] at h
  unfold isPlain
  simp only [Bool.and_eq_true, decide_eq_true_eq, bne_iff_ne, ne_eq]
  omega
theorem termS_word {x : ByteArray} (h : wordS x = true) : term1 (noB, false, 0, x) = some x := by
  have hw := h
  unfold wordS namedS at hw
  simp only [Bool.and_eq_true, decide_eq_true_eq] at hw
  obtain ⟨⟨h1, h2, h3, h4⟩, _⟩ := hw
  have hp : plainS x = true := by
    unfold plainS
    refine decide_eq_true (over_unique (Nat.zero_le _) (Nat.le_refl _) (fun i a b => ?_) (fun h => absurd h (Nat.lt_irrefl _)))
    have hi := over_between (p := isInner) (s := x) x.size 0 (by omega) i a (by omega)
    exact inner_plain hi
  unfold term1 termS shownS
  have hs : (namedS isSmall x && !keptS x) = true := h
  simp only [beq_self_eq_true, Bool.not_true, cond_false, Bool.true_and, hp, decide_eq_true h1, decide_eq_true h2, Bool.and_self, cond_true, hs]
end Go.Den
