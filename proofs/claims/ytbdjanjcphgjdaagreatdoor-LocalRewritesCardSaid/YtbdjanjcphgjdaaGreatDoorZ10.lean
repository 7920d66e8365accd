import Derived.Test.YtbdjanjcphgjdaaGreatDoorZ09
import Derived.Lib.ItoaNum
set_option linter.unusedVariables false
set_option linter.unusedSimpArgs false
set_option linter.unusedSectionVars false
namespace Go.Den
open Go.Proofs
@[reducible] def noB : ByteArray := ByteArray.mk #[]
def keptS (s : ByteArray) : Bool := s == ByteArray.mk #[115, 97, 121, 115] || (s == ByteArray.mk #[116, 111] || s == ByteArray.mk #[97, 116])
def namedS (p : Int → Bool) (s : ByteArray) : Bool := decide (1 ≤ s.size) && (decide (s.size ≤ 32) && (p (bt s 0) && decide (over isInner s 0 = s.size)))
theorem extract_all (s : ByteArray) : s.extract 0 s.size = s := by
 have h : (s.extract 0 s.size).data = s.data := by
  rw [ByteArray.data_extract]
  exact Array.extract_size
 cases s; cases h' : (ByteArray.extract _ _ _); simp_all
theorem over_bt0 {s : ByteArray} {p : Int → Bool} (hp : p = isSmall ∨ p = isGreat) (h : p (bt s 0) = true) : (bt s 0 == 37) = false ∧ isBlank (bt s 0) = false := by
 have h1 : 65 ≤ bt s 0 := by
  rcases hp with rfl | rfl
  ·unfold isSmall at h; simp only [Bool.and_eq_true, decide_eq_true_eq] at h; omega
  ·unfold isGreat at h; simp only [Bool.and_eq_true, decide_eq_true_eq] at h; omega
 refine ⟨beq_eq_false_iff_ne.2 (by omega), ?_⟩
 unfold isBlank
 have a1 : (bt s 0 == 32) = false := beq_eq_false_iff_ne.2 (by omega)
 have a2 : (bt s 0 == 9) = false := beq_eq_false_iff_ne.2 (by omega)
 have a3 : (bt s 0 == 10) = false := beq_eq_false_iff_ne.2 (by omega)
 have a4 : (bt s 0 == 13) = false := beq_eq_false_iff_ne.2 (by omega)
 rw [a1, a2, a3, a4]; rfl
def oneTok (kd : Int) (s : ByteArray) : Except (Nat × Int) Rows → Bool
 | .ok [r] => Row.I r 0 == kd && Row.S r 1 == s
 |_ => false
theorem oneS_kd {s : ByteArray} {j : Nat} {kd v : Int} {x : ByteArray} {e : Nat} (h : oneS s j = some (kd, x, v, e)) : (kd = 1 ↔ isSmall (bt s (j : Int)) = true) ∧ (kd = 2 ↔ isSmall (bt s (j : Int)) = false ∧ isGreat (bt s (j : Int)) = true) ∧ (kd = 1 ∨ kd = 2 → x = s.extract j (over isInner s j)) := by
 unfold oneS at h
 cases h1 : isSmall (bt s (j : Int)) with
 |true => rw [h1] at h; cases h; simp
 |false =>
  rw [h1] at h
  cases h2 : isGreat (bt s (j : Int)) with
  |true => rw [h2] at h; cases h; simp
  |false =>
   rw [h2] at h
   simp only [cond_false] at h
   have hk : kd ≠ 1 ∧ kd ≠ 2 := by
    cases h3 : (isDigit (bt s (j : Int)) || bt s (j : Int) == 45) with
    |true =>
     rw [h3] at h
     simp only [cond_true] at h
     split at h
     ·cases h; decide
     ·cases h
    |false =>
     rw [h3] at h
     simp only [cond_false] at h
     cases h4 : bt s (j : Int) == 34 with
     |true =>
      rw [h4] at h
      simp only [cond_true] at h
      cases h5 : (decide (over isPlain s (j + 1) < s.size) && bt s ((over isPlain s (j + 1) : Nat) : Int) == 34) with
      |true => rw [h5] at h; cases h; decide
      |false => rw [h5] at h; cases h
     |false =>
      rw [h4] at h
      simp only [cond_false] at h
      cases h5 : (bt s (j : Int) == 58 && (decide (j + 1 < s.size) && bt s ((j + 1 : Nat) : Int) == 45)) with
      |true => rw [h5] at h; cases h; decide
      |false =>
       rw [h5] at h
       simp only [cond_false] at h
       cases h6 : (bt s (j : Int) == 40 || (bt s (j : Int) == 41 || (bt s (j : Int) == 44 || (bt s (j : Int) == 46 || bt s (j : Int) == 58)))) with
       |true => rw [h6] at h; cases h; decide
       |false => rw [h6] at h; cases h
   simp [hk.1, hk.2]
theorem small_great {c : Int} (h : isGreat c = true) : isSmall c = false := by
 unfold isGreat at h
 unfold isSmall
 simp only [Bool.and_eq_true, decide_eq_true_eq] at h
 have : ¬ c ≥ 97 := by omega
 simp [this]
theorem named_tok {s : ByteArray} {kd : Int} {p : Int → Bool} (hp : (kd = 1 ∧ p = isSmall) ∨ (kd = 2 ∧ p = isGreat)) : oneTok kd s (tokensE s) = namedS p s := by
 have hpp : p = isSmall ∨ p = isGreat := hp.elim (fun h => .inl h.2) (fun h => .inr h.2)
 cases hn : namedS p s with
 |true =>
  unfold namedS at hn
  simp only [Bool.and_eq_true, decide_eq_true_eq] at hn
  obtain ⟨h1, h2, h3, h4⟩ := hn
  obtain ⟨g1, g2⟩ := over_bt0 hpp h3
  have hsk : skip s 0 = 0 := skip_stop (j := 0) g1 g2
  have hone : oneS s 0 = some (kd, s, 0, s.size) := by
   unfold oneS
   rcases hp with ⟨rfl, rfl⟩ | ⟨rfl, rfl⟩
   ·have h3' : isSmall (bt s ((0 : Nat) : Int)) = true := h3
    rw [h3', h4, extract_all]; rfl
   ·have h3' : isGreat (bt s ((0 : Nat) : Int)) = true := h3
    rw [small_great h3', h3', h4, extract_all]; rfl
  have h5 : tokensE s = .ok [tokRow kd s 0 0] := by
   unfold tokensE tokens
   rw [if_neg (by omega), hsk]
   obtain ⟨z, hz⟩ : ∃ z, s.size = z + 1 := ⟨s.size - 1, by omega⟩
   have e1 : tokF s (s.size + 1) 0 = if 0 < s.size then
     match oneS s 0 with
     |none => .error (0, 70)
     |some (kd, x, v, e) =>
      if x.size > 32 then .error (0, 71)
      else match tokF s s.size (skip s e) with
       | .ok l => .ok (tokRow kd x v 0 :: l)
       | .error e => .error e
    else .ok [] := rfl
   have e2 : tokF s s.size s.size = .ok [] := by
    rw [hz]
    show (if z + 1 < s.size then _ else _) = _
    rw [if_neg (by omega)]
   rw [e1, if_pos (by omega), hone]
   simp only
   rw [if_neg (by omega), skip_end (Nat.le_refl _), e2]
  rw [h5]
  show (Row.I (tokRow kd s 0 0) 0 == kd && Row.S (tokRow kd s 0 0) 1 == s) = true
  have a1 : Row.I (tokRow kd s 0 0) 0 = kd := rfl
  have a2 : Row.S (tokRow kd s 0 0) 1 = s := rfl
  rw [a1, a2]; simp
 |false =>
  cases ht : oneTok kd s (tokensE s) with
  |false => rfl
  |true =>
   exfalso
   unfold tokensE at ht
   by_cases hs : s.size > 4096
   ·rw [if_pos hs] at ht; cases ht
   ·rw [if_neg hs] at ht
    unfold tokens at ht
    have e1 : tokF s (s.size + 1) (skip s 0) = if skip s 0 < s.size then
     match oneS s (skip s 0) with
     |none => .error (skip s 0, 70)
     |some (kd, x, v, e) =>
      if x.size > 32 then .error (skip s 0, 71)
      else match tokF s s.size (skip s e) with
       | .ok l => .ok (tokRow kd x v (skip s 0) :: l)
       | .error e => .error e
     else .ok [] := rfl
    rw [e1] at ht
    by_cases hj : skip s 0 < s.size
    ·rw [if_pos hj] at ht
     cases ho : oneS s (skip s 0) with
     |none => rw [ho] at ht; cases ht
     |some q =>
      obtain ⟨kd', x, v, e⟩ := q
      rw [ho] at ht
      simp only at ht
      by_cases hx : x.size > 32
      ·rw [if_pos hx] at ht; cases ht
      ·rw [if_neg hx] at ht
       cases htl : tokF s s.size (skip s e) with
       |error er => rw [htl] at ht; cases ht
       |ok l =>
        rw [htl] at ht
        cases l with
        |cons _ _ => cases ht
        |nil =>
         have ht' : (Row.I (tokRow kd' x v (skip s 0)) 0 == kd && Row.S (tokRow kd' x v (skip s 0)) 1 == s) = true := ht
         have a1 : Row.I (tokRow kd' x v (skip s 0)) 0 = kd' := rfl
         have a2 : Row.S (tokRow kd' x v (skip s 0)) 1 = x := rfl
         rw [a1, a2, Bool.and_eq_true] at ht'
         have hk : kd' = kd := eq_of_beq ht'.1
         have hxs : x = s := eq_of_beq ht'.2
         subst hk
         obtain ⟨k1, k2, k3⟩ := oneS_kd ho
         have hext := k3 (hp.elim (fun h => .inl h.1) (fun h => .inr h.1))
         have hov := over_le (p := isInner) (s := s) (j := skip s 0) (by omega)
         have hsz := congrArg ByteArray.size hext
         rw [hxs, size_ext hov.1 hov.2] at hsz
         have hj0 : skip s 0 = 0 := by omega
         rw [hj0] at hsz hov k1 k2
         have hps : p (bt s 0) = true := by
          rcases hp with ⟨h, rfl⟩ | ⟨h, rfl⟩
          ·exact k1.1 h
          ·exact (k2.1 h).2
         unfold namedS at hn
         have c1 : 1 ≤ s.size := by omega
         have c2 : s.size ≤ 32 := by rw [hxs] at hx; omega
         have c3 : over isInner s 0 = s.size := by omega
         simp [c1, c2, c3, hps] at hn
    ·rw [if_neg hj] at ht; cases ht
theorem len_two {α : Type} (r q : α) (l : List α) : (((r :: q :: l).length : Int) == 1) = false := by
 refine beq_eq_false_iff_ne.2 ?_
 simp only [List.length_cons]; omega
section
variable {n : Nat} (hn : 10000 < n)
include hn
theorem z20_q {s : ByteArray} : z20_v n s = some (namedS isGreat s, ()) := by
 rw [z20_e, z63_q (by omega), ← named_tok (kd := 2) (p := isGreat) (.inr ⟨rfl, rfl⟩)]
 cases h : tokensE s with
 |error er => simp only [tokRes, obind_some]; cases er.2 == 0 <;> rfl
 |ok l =>
  simp only [tokRes, obind_some, List.nil_append]
  have h0 : ((0 : Int) == 0) = true := rfl
  rw [h0]
  cases l with
  |nil => rfl
  |cons r l =>
   cases l with
   |nil =>
    have h1 : ((([r] : Rows).length : Int) == 1) = true := rfl
    have h2 : (0 : Int) < (([r] : Rows).length : Int) := Int.zero_lt_one
    have h3 : List.getD ([r] : Rows) 0 [] = r := rfl
    simp only [h1, h2, h3, cond_true, if_true, oneTok]
    cases Row.I r 0 == 2 <;> rfl
   |cons q l => rw [len_two]; rfl
theorem z77_q {s : ByteArray} : z77_v n s = some (namedS isSmall s && !keptS s, ()) := by
 rw [z77_e, z63_q (by omega), ← named_tok (kd := 1) (p := isSmall) (.inl ⟨rfl, rfl⟩)]
 cases h : tokensE s with
 |error er => simp only [tokRes, obind_some]; cases er.2 == 0 <;> rfl
 |ok l =>
  simp only [tokRes, obind_some, List.nil_append]
  have h0 : ((0 : Int) == 0) = true := rfl
  rw [h0]
  cases l with
  |nil => rfl
  |cons r l =>
   cases l with
   |nil =>
    have h1 : ((([r] : Rows).length : Int) == 1) = true := rfl
    have h2 : (0 : Int) < (([r] : Rows).length : Int) := Int.zero_lt_one
    have h3 : List.getD ([r] : Rows) 0 [] = r := rfl
    simp only [h1, h2, h3, cond_true, if_true, oneTok, keptS]
    cases Row.I r 0 == 1 <;> cases Row.S r 1 == s <;> cases s == ByteArray.mk #[115, 97, 121, 115] <;> cases s == ByteArray.mk #[116, 111] <;> cases s == ByteArray.mk #[97, 116] <;> rfl
   |cons q l => rw [len_two]; rfl
theorem letter_small (c : Int) : z24_v n c 97 122 = some (isSmall c, ()) := by rw [z24_e]; unfold isSmall; cases decide (c ≥ 97) <;> rfl
theorem letter_great (c : Int) : z24_v n c 65 90 = some (isGreat c, ()) := by rw [z24_e]; unfold isGreat; cases decide (c ≥ 65) <;> rfl
theorem named_loop {s : ByteArray} {a b : Int} (hs : s.size ≤ 32) : ∀ k q : Nat, q + k = s.size → ∀ f, k < f → z38_l4 n s a b f (q : Int) = some (decide (over isInner s q = s.size), ()) := by
 intro k
 induction k with
 |zero =>
  intro q hq f hf
  obtain ⟨f, rfl⟩ : ∃ z, f = z + 1 := ⟨f - 1, by omega⟩
  rw [z38_s4, over_end (by omega)]
  have h1 : ¬ ((q : Int) < (s.size : Int)) := by omega
  have h2 : q = s.size := by omega
  simp [h1, h2]
 |succ k ih =>
  intro q hq f hf
  obtain ⟨f, rfl⟩ : ∃ z, f = z + 1 := ⟨f - 1, by omega⟩
  have h1 : (q : Int) < (s.size : Int) := by omega
  have h0 : (0 : Int) ≤ (q : Int) := by omega
  rw [z38_s4, wrap_succ (show q < big by unfold big; omega)]
  simp only [h1, h0, decide_true, cond_true, if_true, z47_q, obind_some]
  cases hi : isInner (bt s (q : Int)) with
  |false =>
   rw [over_stop hi]
   have : ¬ q = s.size := by omega
   simp [this]
  |true =>
   rw [over_step (by omega) hi]
   exact ih (q + 1) (by omega) f (by omega)
theorem named_q {s : ByteArray} {a b : Int} {p : Int → Bool} (hp : ∀ c, z24_v n c a b = some (p c, ())) : z38_v n s a b = some (namedS p s, ()) := by
 rw [z38_e]
 unfold namedS
 by_cases h1 : (s.size : Int) < 1
 ·have : ¬ 1 ≤ s.size := by omega
  simp [h1, this]
 ·by_cases h2 : (s.size : Int) > 32
  ·have h3 : ¬ s.size ≤ 32 := by omega
   have h4 : 1 ≤ s.size := by omega
   simp [h1, h2, h3, h4]
  ·have h3 : s.size ≤ 32 := by omega
   have h4 : 1 ≤ s.size := by omega
   have h5 : (0 : Int) < (s.size : Int) := by omega
   have hl := named_loop (n := n) hn (a := a) (b := b) h3 s.size 0 (by omega) n (by omega)
   have hl' : z38_l4 n s a b n 0 = some (decide (over isInner s 0 = s.size), ()) := hl
   simp only [h1, h2, h3, h4, h5, decide_false, decide_true, cond_false, if_true, hp, obind_some, hl', Bool.true_and]
   cases p (bt s 0) <;> rfl
theorem kept_q {s : ByteArray} : z59_v n s = some (keptS s, ()) := by
 rw [z59_e]
 unfold keptS
 cases s == ByteArray.mk #[115, 97, 121, 115] <;> cases s == ByteArray.mk #[116, 111] <;> rfl
theorem word_q {s : ByteArray} : z68_v n s = some (namedS isSmall s && !keptS s, ()) := by
 rw [z68_e, named_q hn (p := isSmall) (letter_small hn), kept_q hn]
 cases namedS isSmall s <;> rfl
end
end Go.Den
