import Derived.Test.YtbdjanjcphgjdaaDoorZ06
import Derived.Test.YtbdjanjcphgjdaaDoorZ03
import Derived.Lib.ItoaNum
import Derived.Test.YtbdjanjcphgjdaaDoorZ05
set_option linter.unusedVariables false
set_option linter.unusedSimpArgs false
set_option linter.unusedSectionVars false
namespace Go.Den
open Go.Proofs
abbrev TokRes := Option (((Bool × Rows) × Int × Int × Unit) × Unit)
def tokRes (nl : Bool) (acc : Rows) : Except (Nat × Int) Rows → TokRes
  | .ok l => some (((nl && l.isEmpty, acc ++ l), (0, (0, ()))), ())
  | .error p => some (((true, []), ((p.1 : Int), (p.2, ()))), ())
section
variable {s : ByteArray} (hs : s.size < 1000000000)
include hs
theorem lex_Tokens_loop {n : Nat} (hn : s.size < n) : ∀ k j, j ≤ s.size → s.size - j < k → ∀ i nl acc, s.size - j < i → acc.length + (s.size - j) < 1100000000 →
    lex_Tokens_l4 n s i (j : Int) nl acc = tokRes nl acc (tokF s k j) := by
  have hb : s.size < big := by unfold big; omega
  intro k
  induction k with
  | zero => intro j _ h; omega
  | succ k ih =>
    intro j hj hk i nl acc hi hacc
    obtain ⟨i, rfl⟩ : ∃ z, i = z + 1 := ⟨i - 1, by omega⟩
    rw [lex_Tokens_s4]
    unfold tokF
    by_cases hlt : j < s.size
    · have h1 : (j : Int) < (s.size : Int) := by omega
      have h0 : (0 : Int) ≤ (j : Int) := by omega
      rw [if_pos hlt]
      simp only [h1, decide_true, cond_true]
      have ho := lex_one_q hb hn hlt
      cases hone : oneS s j with
      | none =>
        rw [hone] at ho
        obtain ⟨t, ht⟩ := ho
        rw [ht]; rfl
      | some t =>
        obtain ⟨kd, x, v, e⟩ := t
        rw [hone] at ho
        simp only at ho ⊢
        by_cases hx : x.size > 32
        · rw [if_pos hx] at ho ⊢
          obtain ⟨t, ht⟩ := ho
          rw [ht]; rfl
        · rw [if_neg hx] at ho ⊢
          have he := oneS_next hlt hone
          have hsk := skip_le (s := s) (j := e) he.2
          have hl : (acc.length + 1) * 40 ≤ 140737488355328 := by omega
          rw [ho]
          simp only [obind_some, bne_self_eq_false, cond_false, List.length_cons, List.length_nil, Nat.zero_add, hl, if_true, lex_skip_q hb hn he.2, List.isEmpty_cons, Bool.and_false, appX]
          rw [ih (skip s e) hsk.2 (by omega) i false _ (by omega) (by simp only [List.length_append, List.length_cons, List.length_nil]; omega)]
          cases tokF s k (skip s e) with
          | ok l => simp [tokRes]
          | error p => rfl
    · have h1 : ¬ (j : Int) < (s.size : Int) := by omega
      rw [if_neg hlt]
      simp only [h1, decide_false, cond_false, tokRes, List.isEmpty_nil, Bool.and_true, List.append_nil]
end
def tokensE (s : ByteArray) : Except (Nat × Int) Rows := if s.size > 4096 then .error (0, 3) else tokens s
theorem lex_Tokens_q {n : Nat} {s : ByteArray} (hn : 5000 < n) : lex_Tokens_v n s = tokRes true [] (tokensE s) := by
  rw [lex_Tokens_e]
  unfold tokensE
  by_cases h : s.size > 4096
  · have h1 : (s.size : Int) > 4096 := by omega
    rw [if_pos h]
    simp only [h1, decide_true, cond_true]; rfl
  · have h1 : ¬ (s.size : Int) > 4096 := by omega
    have hsk := skip_le (s := s) (j := 0) (Nat.zero_le _)
    have hb : s.size < big := by unfold big; omega
    rw [if_neg h]
    simp only [h1, decide_false, cond_false]
    have h2 := lex_skip_q hb (n := n) (j := 0) (by omega) (Nat.zero_le _)
    rw [show ((0 : Nat) : Int) = 0 from rfl] at h2
    rw [h2]
    exact lex_Tokens_loop (by omega) (by omega) (s.size + 1) _ hsk.2 (by omega) n true [] (by omega) (by simp only [List.length_nil]; omega)
end Go.Den
namespace Go.Den
open Go.Proofs
@[reducible] def noB : ByteArray := ByteArray.mk #[]
def keptS (s : ByteArray) : Bool := s == ByteArray.mk #[115, 97, 121, 115] || (s == ByteArray.mk #[116, 111] || s == ByteArray.mk #[97, 116])
def namedS (p : Int → Bool) (s : ByteArray) : Bool := decide (1 ≤ s.size) && (decide (s.size ≤ 32) && (p (bt s 0) && decide (over isInner s 0 = s.size)))
theorem extract_all (s : ByteArray) : s.extract 0 s.size = s := by
  have h : (s.extract 0 s.size).data = s.data := by
    rw [ByteArray.data_extract]
    exact Array.extract_size
  cases s; cases h' : (ByteArray.extract _ _ _); simp_all
theorem over_bt0 {s : ByteArray} {p : Int → Bool} (hp : p = isSmall ∨ p = isGreat) (h : p (bt s 0) = true) : (bt s 0 == 37) = false ∧ isBlank (bt s 0) = false := by
  have h1 : 65 ≤ bt s 0 := by
    rcases hp with rfl | rfl
    · unfold isSmall at h; simp only [Bool.and_eq_true, decide_eq_true_eq] at h; omega
    · unfold isGreat at h; simp only [Bool.and_eq_true, decide_eq_true_eq] at h; omega
  refine ⟨beq_eq_false_iff_ne.2 (by omega), ?_⟩
  unfold isBlank
  have a1 : (bt s 0 == 32) = false := beq_eq_false_iff_ne.2 (by omega)
  have a2 : (bt s 0 == 9) = false := beq_eq_false_iff_ne.2 (by omega)
  have a3 : (bt s 0 == 10) = false := beq_eq_false_iff_ne.2 (by omega)
  have a4 : (bt s 0 == 13) = false := beq_eq_false_iff_ne.2 (by omega)
  rw [a1, a2, a3, a4]; rfl
def oneTok (kd : Int) (s : ByteArray) : Except (Nat × Int) Rows → Bool
  | .ok [r] => Row.I r 0 == kd && Row.S r 1 == s
  | _ => false
theorem oneS_kd {s : ByteArray} {j : Nat} {kd v : Int} {x : ByteArray} {e : Nat} (h : oneS s j = some (kd, x, v, e)) : (kd = 1 ↔ isSmall (bt s (j : Int)) = true) ∧ (kd = 2 ↔ isSmall (bt s (j : Int)) = false ∧ isGreat (bt s (j : Int)) = true) ∧ (kd = 1 ∨ kd = 2 → x = s.extract j (over isInner s j)) := by
  unfold oneS at h
  cases h1 : isSmall (bt s (j : Int)) with
  | true => rw [h1] at h; cases h; simp
  | false =>
    rw [h1] at h
    cases h2 : isGreat (bt s (j : Int)) with
    | true => rw [h2] at h; cases h; simp
    | false =>
      rw [h2] at h
      simp only [cond_false] at h
      have hk : kd ≠ 1 ∧ kd ≠ 2 := by
        cases h3 : (isDigit (bt s (j : Int)) || bt s (j : Int) == 45) with
        | true =>
          rw [h3] at h
          simp only [cond_true] at h
          split at h
          · cases h; decide
          · cases h
        | false =>
          rw [h3] at h
          simp only [cond_false] at h
          cases h4 : bt s (j : Int) == 34 with
          | true =>
            rw [h4] at h
            simp only [cond_true] at h
            cases h5 : (decide (over isPlain s (j + 1) < s.size) && bt s ((over isPlain s (j + 1) : Nat) : Int) == 34) with
            | true => rw [h5] at h; cases h; decide
            | false => rw [h5] at h; cases h
          | false =>
            rw [h4] at h
            simp only [cond_false] at h
            cases h5 : (bt s (j : Int) == 58 && (decide (j + 1 < s.size) && bt s ((j + 1 : Nat) : Int) == 45)) with
            | true => rw [h5] at h; cases h; decide
            | false =>
              rw [h5] at h
              simp only [cond_false] at h
              cases h6 : (bt s (j : Int) == 40 || (bt s (j : Int) == 41 || (bt s (j : Int) == 44 || (bt s (j : Int) == 46 || bt s (j : Int) == 58)))) with
              | true => rw [h6] at h; cases h; decide
              | false => rw [h6] at h; cases h
      simp [hk.1, hk.2]
theorem small_great {c : Int} (h : isGreat c = true) : isSmall c = false := by
  unfold isGreat at h
  unfold isSmall
  simp only [Bool.and_eq_true, decide_eq_true_eq] at h
  have : ¬ c ≥ 97 := by omega
  simp [this]
theorem named_tok {s : ByteArray} {kd : Int} {p : Int → Bool} (hp : (kd = 1 ∧ p = isSmall) ∨ (kd = 2 ∧ p = isGreat)) : oneTok kd s (tokensE s) = namedS p s := by
  have hpp : p = isSmall ∨ p = isGreat := hp.elim (fun h => .inl h.2) (fun h => .inr h.2)
  cases hn : namedS p s with
  | true =>
    unfold namedS at hn
    simp only [Bool.and_eq_true, decide_eq_true_eq] at hn
    obtain ⟨h1, h2, h3, h4⟩ := hn
    obtain ⟨g1, g2⟩ := over_bt0 hpp h3
    have hsk : skip s 0 = 0 := skip_stop (j := 0) g1 g2
    have hone : oneS s 0 = some (kd, s, 0, s.size) := by
      unfold oneS
      rcases hp with ⟨rfl, rfl⟩ | ⟨rfl, rfl⟩
      · have h3' : isSmall (bt s ((0 : Nat) : Int)) = true := h3
        rw [h3', h4, extract_all]; rfl
      · have h3' : isGreat (bt s ((0 : Nat) : Int)) = true := h3
        rw [small_great h3', h3', h4, extract_all]; rfl
    have h5 : tokensE s = .ok [tokRow kd s 0 0] := by
      unfold tokensE tokens
      rw [if_neg (by omega), hsk]
      obtain ⟨z, hz⟩ : ∃ z, s.size = z + 1 := ⟨s.size - 1, by omega⟩
      have e1 : tokF s (s.size + 1) 0 = if 0 < s.size then
          match oneS s 0 with
          | none => .error (0, 70)
          | some (kd, x, v, e) =>
            if x.size > 32 then .error (0, 71)
            else match tokF s s.size (skip s e) with
              | .ok l => .ok (tokRow kd x v 0 :: l)
              | .error e => .error e
        else .ok [] := rfl
      have e2 : tokF s s.size s.size = .ok [] := by
        rw [hz]
        show (if z + 1 < s.size then _ else _) = _
        rw [if_neg (by omega)]
      rw [e1, if_pos (by omega), hone]
      simp only
      rw [if_neg (by omega), skip_end (Nat.le_refl _), e2]
    rw [h5]
    show (Row.I (tokRow kd s 0 0) 0 == kd && Row.S (tokRow kd s 0 0) 1 == s) = true
    have a1 : Row.I (tokRow kd s 0 0) 0 = kd := rfl
    have a2 : Row.S (tokRow kd s 0 0) 1 = s := rfl
    rw [a1, a2]; simp
  | false =>
    cases ht : oneTok kd s (tokensE s) with
    | false => rfl
    | true =>
      exfalso
      unfold tokensE at ht
      by_cases hs : s.size > 4096
      · rw [if_pos hs] at ht; cases ht
      · rw [if_neg hs] at ht
        unfold tokens at ht
        have e1 : tokF s (s.size + 1) (skip s 0) = if skip s 0 < s.size then
          match oneS s (skip s 0) with
          | none => .error (skip s 0, 70)
          | some (kd, x, v, e) =>
            if x.size > 32 then .error (skip s 0, 71)
            else match tokF s s.size (skip s e) with
              | .ok l => .ok (tokRow kd x v (skip s 0) :: l)
              | .error e => .error e
          else .ok [] := rfl
        rw [e1] at ht
        by_cases hj : skip s 0 < s.size
        · rw [if_pos hj] at ht
          cases ho : oneS s (skip s 0) with
          | none => rw [ho] at ht; cases ht
          | some q =>
            obtain ⟨kd', x, v, e⟩ := q
            rw [ho] at ht
            simp only at ht
            by_cases hx : x.size > 32
            · rw [if_pos hx] at ht; cases ht
            · rw [if_neg hx] at ht
              cases htl : tokF s s.size (skip s e) with
              | error er => rw [htl] at ht; cases ht
              | ok l =>
                rw [htl] at ht
                cases l with
                | cons _ _ => cases ht
                | nil =>
                  have ht' : (Row.I (tokRow kd' x v (skip s 0)) 0 == kd && Row.S (tokRow kd' x v (skip s 0)) 1 == s) = true := ht
                  have a1 : Row.I (tokRow kd' x v (skip s 0)) 0 = kd' := rfl
                  have a2 : Row.S (tokRow kd' x v (skip s 0)) 1 = x := rfl
                  rw [a1, a2, Bool.and_eq_true] at ht'
                  have hk : kd' = kd := eq_of_beq ht'.1
                  have hxs : x = s := eq_of_beq ht'.2
                  subst hk
                  obtain ⟨k1, k2, k3⟩ := oneS_kd ho
                  have hext := k3 (hp.elim (fun h => .inl h.1) (fun h => .inr h.1))
                  have hov := over_le (p := isInner) (s := s) (j := skip s 0) (by omega)
                  have hsz := congrArg ByteArray.size hext
                  rw [hxs, size_ext hov.1 hov.2] at hsz
                  have hj0 : skip s 0 = 0 := by omega
                  rw [hj0] at hsz hov k1 k2
                  have hps : p (bt s 0) = true := by
                    rcases hp with ⟨h, rfl⟩ | ⟨h, rfl⟩
                    · exact k1.1 h
                    · exact (k2.1 h).2
                  unfold namedS at hn
                  have c1 : 1 ≤ s.size := by omega
                  have c2 : s.size ≤ 32 := by rw [hxs] at hx; omega
                  have c3 : over isInner s 0 = s.size := by omega
                  simp [c1, c2, c3, hps] at hn
        · rw [if_neg hj] at ht; cases ht
theorem len_two {α : Type} (r q : α) (l : List α) : (((r :: q :: l).length : Int) == 1) = false := by
  refine beq_eq_false_iff_ne.2 ?_
  simp only [List.length_cons]; omega
section
variable {n : Nat} (hn : 10000 < n)
include hn
theorem show_variable_q {s : ByteArray} : show_variable_v n s = some (namedS isGreat s, ()) := by
  rw [show_variable_e, lex_Tokens_q (by omega), ← named_tok (kd := 2) (p := isGreat) (.inr ⟨rfl, rfl⟩)]
  cases h : tokensE s with
  | error er => simp only [tokRes, obind_some]; cases er.2 == 0 <;> rfl
  | ok l =>
    simp only [tokRes, obind_some, List.nil_append]
    have h0 : ((0 : Int) == 0) = true := rfl
    rw [h0]
    cases l with
    | nil => rfl
    | cons r l =>
      cases l with
      | nil =>
        have h1 : ((([r] : Rows).length : Int) == 1) = true := rfl
        have h2 : (0 : Int) < (([r] : Rows).length : Int) := Int.zero_lt_one
        have h3 : List.getD ([r] : Rows) 0 [] = r := rfl
        simp only [h1, h2, h3, cond_true, if_true, oneTok]
        cases Row.I r 0 == 2 <;> rfl
      | cons q l => rw [len_two]; rfl
theorem show_word_q {s : ByteArray} : show_word_v n s = some (namedS isSmall s && !keptS s, ()) := by
  rw [show_word_e, lex_Tokens_q (by omega), ← named_tok (kd := 1) (p := isSmall) (.inl ⟨rfl, rfl⟩)]
  cases h : tokensE s with
  | error er => simp only [tokRes, obind_some]; cases er.2 == 0 <;> rfl
  | ok l =>
    simp only [tokRes, obind_some, List.nil_append]
    have h0 : ((0 : Int) == 0) = true := rfl
    rw [h0]
    cases l with
    | nil => rfl
    | cons r l =>
      cases l with
      | nil =>
        have h1 : ((([r] : Rows).length : Int) == 1) = true := rfl
        have h2 : (0 : Int) < (([r] : Rows).length : Int) := Int.zero_lt_one
        have h3 : List.getD ([r] : Rows) 0 [] = r := rfl
        simp only [h1, h2, h3, cond_true, if_true, oneTok, keptS]
        cases Row.I r 0 == 1 <;> cases Row.S r 1 == s <;> cases s == ByteArray.mk #[115, 97, 121, 115] <;> cases s == ByteArray.mk #[116, 111] <;> cases s == ByteArray.mk #[97, 116] <;> rfl
      | cons q l => rw [len_two]; rfl
end
end Go.Den
namespace Go.Den
open Go.Proofs Go.Lib
theorem nDigits_le : ∀ k u : Nat, 1 ≤ k → u < 10 ^ k → nDigits u ≤ k
  | 0, u, h, _ => by omega
  | k + 1, u, _, h => by
    by_cases hu : u < 10
    · rw [nDigits_small hu]; omega
    · rw [nDigits_big hu]
      have hk : 1 ≤ k := by
        cases k with
        | zero => simp at h; omega
        | succ k => omega
      rw [Nat.pow_succ] at h
      have := nDigits_le k (u / 10) hk (by omega)
      omega
section
variable {n : Nat} {j0 : Int}
def plainS (s : ByteArray) : Bool := decide (over isPlain s 0 = s.size)
theorem plain_loop {s : ByteArray} (hs : s.size ≤ 140737488351232) : ∀ k q : Nat, q + k = s.size → ∀ f, k < f → show_plain_l2 n s f (q : Int) = some (decide (over isPlain s q = s.size) && (decide (1 ≤ s.size) && decide (s.size ≤ 32)), ()) := by
  intro k
  induction k with
  | zero =>
    intro q hq f hf
    obtain ⟨f, rfl⟩ : ∃ z, f = z + 1 := ⟨f - 1, by omega⟩
    rw [show_plain_s2, over_end (by omega)]
    have h1 : ¬ ((q : Int) < (s.size : Int)) := by omega
    have h2 : q = s.size := by omega
    simp only [h1, decide_false, cond_false, h2, decide_true, Bool.true_and]
    by_cases h3 : (s.size : Int) ≥ 1
    · have h4 : 1 ≤ s.size := by omega
      have h5 : decide ((s.size : Int) ≤ 32) = decide (s.size ≤ 32) := decide_eq_decide.2 (by omega)
      simp [h3, h4, h5]
    · have h4 : ¬ 1 ≤ s.size := by omega
      simp [h3, h4]
  | succ k ih =>
    intro q hq f hf
    obtain ⟨f, rfl⟩ : ∃ z, f = z + 1 := ⟨f - 1, by omega⟩
    have h1 : (q : Int) < (s.size : Int) := by omega
    have h0 : (0 : Int) ≤ (q : Int) := by omega
    have hne : ¬ q = s.size := by omega
    rw [show_plain_s2, wrap_succ (show q < big by unfold big; omega)]
    simp only [h1, h0, decide_true, cond_true, if_true]
    by_cases c1 : bt s (q : Int) < 32
    · have hp : isPlain (bt s (q : Int)) = false := by
        unfold isPlain
        have h32 : ¬ bt s (q : Int) ≥ 32 := by omega
        simp [h32]
      rw [over_stop hp]
      simp [c1, hne]
    · by_cases c2 : bt s (q : Int) > 126
      · have hp : isPlain (bt s (q : Int)) = false := by
          unfold isPlain
          have h126 : ¬ bt s (q : Int) ≤ 126 := by omega
          simp [h126]
        rw [over_stop hp]
        simp [c1, c2, hne]
      · cases c3 : bt s (q : Int) == 34 with
        | true =>
          have hp : isPlain (bt s (q : Int)) = false := by
            unfold isPlain
            have h34 : bt s (q : Int) = 34 := by simpa using c3
            rw [h34]; rfl
          rw [over_stop hp]
          simp [c1, c2, hne]
        | false =>
          cases c4 : bt s (q : Int) == 92 with
          | true =>
            have hp : isPlain (bt s (q : Int)) = false := by
              unfold isPlain
              have h92 : bt s (q : Int) = 92 := by simpa using c4
              rw [h92]; rfl
            rw [over_stop hp]
            simp [c1, c2, hne]
          | false =>
            have hp : isPlain (bt s (q : Int)) = true := by
              unfold isPlain
              have a1 : bt s (q : Int) ≥ 32 := by omega
              have a2 : bt s (q : Int) ≤ 126 := by omega
              have a3 : (bt s (q : Int) != 34) = true := by simp [bne, c3]
              have a4 : (bt s (q : Int) != 92) = true := by simp [bne, c4]
              simp only [a1, a2, a3, a4, decide_true, Bool.true_and]
            rw [over_step (by omega) hp]
            simp only [c1, c2, decide_false, cond_false]
            exact ih (q + 1) (by omega) f (by omega)
theorem plain_q {s : ByteArray} (hs : s.size ≤ 140737488351232) (hsn : s.size < n) : show_plain_v n s = some (plainS s && (decide (1 ≤ s.size) && decide (s.size ≤ 32)), ()) := by
  rw [show_plain_e]
  exact plain_loop hs s.size 0 (by omega) n (by omega)
def shownS (s : ByteArray) : (ByteArray × Int × Unit) × Unit :=
  bif namedS isSmall s && !keptS s then ((s, (0, ())), ()) else ((ByteArray.mk #[34] ++ s ++ ByteArray.mk #[34], (0, ())), ())
def termS (s0 : ByteArray) (b1 : Bool) (j2 : Int) (s3 : ByteArray) : (ByteArray × Int × Unit) × Unit :=
  bif !s0 == noB then
    bif b1 == false && (j2 == 0 && s3 == noB) && namedS isGreat s0 then ((s0, (0, ())), ()) else ((noB, (100, ())), ())
  else bif b1 then
    bif s3 == noB then ((⟨(itoa j2).toArray⟩, (0, ())), ()) else ((noB, (100, ())), ())
  else bif j2 == 0 && (plainS s3 && (decide (1 ≤ s3.size) && decide (s3.size ≤ 32))) then shownS s3 else ((noB, (100, ())), ())
theorem show_Term_q {s0 s3 : ByteArray} {b1 : Bool} {j2 : Int} (hlo : -9223372036854775808 ≤ j2) (hhi : j2 ≤ 9223372036854775807) (hs : s3.size ≤ 140737488351232) (hsn : s3.size < n) (hn : 10000 < n) : show_Term_v n s0 b1 j2 s3 = some (termS s0 b1 j2 s3) := by
  rw [show_Term_e]
  unfold termS
  have hi : strconv_Itoa_v n j2 = some (⟨(itoa j2).toArray⟩, ()) := by unfold strconv_Itoa_v; simp [hlo, hhi]
  have c1 : 1 + s3.size < 4611686018427387904 := by omega
  have c2 : ByteArray.size (ByteArray.mk #[34] ++ s3) + 1 < 4611686018427387904 := by
    rw [ByteArray.size_append]
    have : (ByteArray.mk #[34]).size = 1 := rfl
    omega
  simp only [show_variable_q hn, show_word_q hn, plain_q hs hsn, hi, obind_some, c1, c2, if_true]
  cases hz : s0 == noB with
  | false =>
    simp only [Bool.not_false, cond_true]
    cases b1 <;> cases j2 == 0 <;> cases s3 == noB <;> cases namedS isGreat s0 <;> rfl
  | true =>
    simp only [Bool.not_true, cond_false]
    cases b1 with
    | true => cases s3 == noB <;> simp_all
    | false =>
      simp only [cond_false, bne]
      cases j2 == 0 with
      | false => rfl
      | true =>
        cases plainS s3 && (decide (1 ≤ s3.size) && decide (s3.size ≤ 32)) with
        | false => rfl
        | true =>
          simp only [shownS]
          cases namedS isSmall s3 && !keptS s3 <;> rfl
end
end Go.Den
namespace Go.Den
open Go.Proofs
abbrev Tm := ByteArray × Bool × Int × ByteArray
def tmAt (r : Row) (o : Nat) : Tm := (Row.S r o, Row.B r (o + 1), Row.I r (o + 2), Row.S r (o + 3))
abbrev LitD := Tm × ByteArray × List Tm × Tm
abbrev RuleD := Tm × ByteArray × List Tm × Tm × List LitD
instance decTms : DecidableEq (List Tm × Tm) := inferInstance
instance decLit1 : DecidableEq (ByteArray × List Tm × Tm) := @instDecidableEqProd ByteArray (List Tm × Tm) inferInstance decTms
instance decLit : DecidableEq LitD := @instDecidableEqProd Tm (ByteArray × List Tm × Tm) inferInstance decLit1
instance decLits : DecidableEq (List LitD) := @instDecidableEqList LitD decLit
instance decRule3 : DecidableEq (Tm × List LitD) := @instDecidableEqProd Tm (List LitD) inferInstance decLits
instance decRule2 : DecidableEq (List Tm × Tm × List LitD) := @instDecidableEqProd (List Tm) (Tm × List LitD) inferInstance decRule3
instance decRule1 : DecidableEq (ByteArray × List Tm × Tm × List LitD) := @instDecidableEqProd ByteArray (List Tm × Tm × List LitD) inferInstance decRule2
instance decRule : DecidableEq RuleD := @instDecidableEqProd Tm (ByteArray × List Tm × Tm × List LitD) inferInstance decRule1
instance decRules : DecidableEq (List RuleD) := @instDecidableEqList RuleD decRule
def tms (l : Rows) : List Tm := l.map fun r => tmAt r 0
def litD (l : Row) : LitD := (tmAt l 0, Row.S l 4, tms (Row.R l 5), tmAt l 6)
def ruleD (r : Row) : RuleD := (tmAt r 0, Row.S r 4, tms (Row.R r 5), tmAt r 6, (Row.R r 10).map litD)
def sameT (a b : Tm) : Bool := a.1 == b.1 && (a.2.1 == b.2.1 && (a.2.2.1 == b.2.2.1 && (a.2.2.2 == b.2.2.2 && true)))
theorem sameT_eq (a b : Tm) : sameT a b = decide (a = b) := by
  obtain ⟨a1, a2, a3, a4⟩ := a
  obtain ⟨b1, b2, b3, b4⟩ := b
  have h : sameT (a1, a2, a3, a4) (b1, b2, b3, b4) = true ↔ (a1, a2, a3, a4) = (b1, b2, b3, b4) := by
    unfold sameT
    simp only [Bool.and_true, Bool.and_eq_true, beq_iff_eq, Prod.mk.injEq]
  cases hs : sameT (a1, a2, a3, a4) (b1, b2, b3, b4) with
  | true => exact (decide_eq_true (h.1 hs)).symm
  | false => exact (decide_eq_false (fun e => by rw [h.2 e] at hs; cases hs)).symm
theorem dec_cons {α : Type} [DecidableEq α] (a b : α) (l m : List α) : decide (a :: l = b :: m) = (decide (a = b) && decide (l = m)) := by
  by_cases h1 : a = b <;> by_cases h2 : l = m <;> simp [h1, h2]
theorem tms_len (l : Rows) : (tms l).length = l.length := List.length_map ..
theorem ne_len (a b : Nat) : ((a : Int) != (b : Int)) = !decide (a = b) := by
  by_cases h : a = b
  · subst h; simp
  · have : ¬ (a : Int) = (b : Int) := by omega
    simp [bne, h, this]
theorem Terms_ql {n : Nat} {b0 b2 : Bool} {r r3 : Rows} (hb : r.length < big) (he : r.length = r3.length) : ∀ k j : Nat, j + k = r.length → ∀ i, k < i → ref05_Terms_l4 n b0 r b2 r3 i (j : Int) = some (decide (tms (r.drop j) = tms (r3.drop j)), ()) := by
  intro k
  induction k with
  | zero =>
    intro j hj i hi
    obtain ⟨i, rfl⟩ : ∃ m, i = m + 1 := ⟨i - 1, by omega⟩
    rw [ref05_Terms_s4, List.drop_eq_nil_of_le (by omega), List.drop_eq_nil_of_le (by omega)]
    have h1 : ¬ (j : Int) < (r.length : Int) := by omega
    simp only [h1, decide_false, cond_false, decide_true]
  | succ k ih =>
    intro j hj i hi
    obtain ⟨i, rfl⟩ : ∃ m, i = m + 1 := ⟨i - 1, by omega⟩
    have hlt : j < r.length := by omega
    have hlt3 : j < r3.length := by omega
    have h1 : (j : Int) < (r.length : Int) := by omega
    have h3 : (j : Int) < (r3.length : Int) := by omega
    have h2 : (0 : Int) ≤ (j : Int) := by omega
    rw [ref05_Terms_s4, List.drop_eq_getElem_cons hlt, List.drop_eq_getElem_cons hlt3, wrap_succ (show j < big by omega)]
    simp only [h1, h2, h3, if_true, decide_true, cond_true, Int.toNat_natCast, getD_get hlt, getD_get hlt3, tms, List.map_cons, dec_cons]
    rw [← sameT_eq]
    show (bif !sameT (tmAt r[j] 0) (tmAt r3[j] 0) then _ else _) = _
    cases hs : sameT (tmAt r[j] 0) (tmAt r3[j] 0) with
    | false => rfl
    | true => exact ih (j + 1) (by omega) i (by omega)
theorem Terms_qd {n : Nat} {b0 b2 : Bool} {r r3 : Rows} (hb : r.length < big) (hn : r.length < n) : ref05_Terms_v n b0 r b2 r3 = some (decide (tms r = tms r3), ()) := by
  rw [ref05_Terms_e, ne_len]
  by_cases h : r.length = r3.length
  · rw [decide_eq_true h]
    exact Terms_ql hb h r.length 0 (by omega) n hn
  · have : ¬ tms r = tms r3 := fun e => h (by rw [← tms_len, ← tms_len r3, e])
    rw [decide_eq_false h, decide_eq_false this]; rfl
structure Small (n : Nat) (l : Rows) : Prop where
  len : l.length < big ∧ l.length < n
  in_ : ∀ r ∈ l, (Row.R r 5).length < big ∧ (Row.R r 5).length < n
section
variable {n : Nat} {s0 : ByteArray} {b1 : Bool} {j2 : Int} {s3 s4 : ByteArray} {b5 : Bool} {r6 : Rows} {s7 : ByteArray} {b8 : Bool} {j9 : Int} {s10 : ByteArray} {b11 : Bool} {r12 : Rows}
variable {s13 : ByteArray} {b14 : Bool} {j15 : Int} {s16 s17 : ByteArray} {b18 : Bool} {r19 : Rows} {s20 : ByteArray} {b21 : Bool} {j22 : Int} {s23 : ByteArray} {b24 : Bool} {r25 : Rows}
end
structure Small2 (n : Nat) (r : Row) : Prop where
  a : (Row.R r 5).length < big ∧ (Row.R r 5).length < n
  b : Small n (Row.R r 10)
end Go.Den
namespace Go.Den
open Go.Proofs
def nilT (t : Tm) : Bool := t.1 == ByteArray.mk #[] && (t.2.1 == false && (t.2.2.1 == 0 && (t.2.2.2 == ByteArray.mk #[] && true)))
def term1 (t : Tm) : Option ByteArray := bif (termS t.1 t.2.1 t.2.2.1 t.2.2.2).1.2.1 == 0 then some (termS t.1 t.2.1 t.2.2.1 t.2.2.2).1.1 else none
def tx1 (t : Tm) : ByteArray := (term1 t).getD noB
theorem termS_eq (t : Tm) : termS t.1 t.2.1 t.2.2.1 t.2.2.2 = match term1 t with | some s => ((s, (0, ())), ()) | none => ((noB, (100, ())), ()) := by
  obtain ⟨s0, b1, j2, s3⟩ := t
  unfold term1 termS shownS
  cases !s0 == noB <;> cases (b1 == false && (j2 == 0 && s3 == noB) && namedS isGreat s0) <;> cases b1 <;> cases s3 == noB <;> cases (j2 == 0 && (plainS s3 && (decide (1 ≤ s3.size) && decide (s3.size ≤ 32)))) <;> cases (namedS isSmall s3 && !keptS s3) <;> rfl
theorem itoa_size {j : Int} (hlo : -9223372036854775808 ≤ j) (hhi : j ≤ 9223372036854775807) : (ByteArray.mk (Go.Lib.itoa j).toArray).size ≤ 40 := by
  show (Go.Lib.itoa j).toArray.size ≤ 40
  rw [List.size_toArray]
  have hp : (10 : Nat) ^ 20 = 100000000000000000000 := by decide
  have h1 := nDigits_le 20 j.natAbs (by omega) (by omega)
  have h2 := nDigits_le 20 j.toNat (by omega) (by omega)
  unfold Go.Lib.itoa
  split
  · rw [List.length_cons, Go.Lib.decDigits_length]; omega
  · rw [Go.Lib.decDigits_length]; omega
theorem term1_size {t : Tm} (hlo : -9223372036854775808 ≤ t.2.2.1) (hhi : t.2.2.1 ≤ 9223372036854775807) {s : ByteArray} (h : term1 t = some s) : s.size ≤ 40 := by
  obtain ⟨s0, b1, j2, s3⟩ := t
  unfold term1 termS at h
  simp only at h hlo hhi
  cases h0 : !s0 == noB with
  | true =>
    rw [h0] at h
    simp only [cond_true] at h
    cases h1 : (b1 == false && (j2 == 0 && s3 == noB) && namedS isGreat s0) with
    | true =>
      rw [h1] at h
      simp only [cond_true, beq_self_eq_true] at h
      cases h
      unfold namedS at h1
      simp only [Bool.and_eq_true, decide_eq_true_eq] at h1
      omega
    | false => rw [h1] at h; cases h
  | false =>
    rw [h0] at h
    simp only [cond_false] at h
    cases b1 with
    | true =>
      simp only [cond_true] at h
      cases h1 : s3 == noB with
      | true =>
        rw [h1] at h
        cases h
        exact itoa_size hlo hhi
      | false => rw [h1] at h; cases h
    | false =>
      simp only [cond_false] at h
      cases h1 : (j2 == 0 && (plainS s3 && (decide (1 ≤ s3.size) && decide (s3.size ≤ 32)))) with
      | false => rw [h1] at h; cases h
      | true =>
        rw [h1] at h
        simp only [Bool.and_eq_true, decide_eq_true_eq] at h1
        simp only [cond_true, shownS] at h
        cases h2 : (namedS isSmall s3 && !keptS s3) with
        | true =>
          rw [h2] at h
          simp only [cond_true, beq_self_eq_true, Option.some.injEq] at h
          subst h; omega
        | false =>
          rw [h2] at h
          simp only [cond_false, cond_true, beq_self_eq_true, Option.some.injEq] at h
          subst h
          simp only [ByteArray.size_append]
          have e : (ByteArray.mk #[34]).size = 1 := rfl
          omega
theorem tx1_size {t : Tm} (hlo : -9223372036854775808 ≤ t.2.2.1) (hhi : t.2.2.1 ≤ 9223372036854775807) : (tx1 t).size ≤ 40 := by
  unfold tx1
  cases h : term1 t with
  | none => exact Nat.zero_le _
  | some s => exact term1_size hlo hhi h
structure TmOk (n : Nat) (t : Tm) : Prop where
  lo : -9223372036854775808 ≤ t.2.2.1
  hi : t.2.2.1 ≤ 9223372036854775807
  s : t.2.2.2.size ≤ 140737488351232
  sn : t.2.2.2.size < n
theorem show_T {n : Nat} {t : Tm} (h : TmOk n t) (hn : 10000 < n) : show_Term_v n t.1 t.2.1 t.2.2.1 t.2.2.2 = some (match term1 t with | some s => ((s, (0, ())), ()) | none => ((noB, (100, ())), ())) := by
  rw [show_Term_q h.lo h.hi h.s h.sn hn, termS_eq]
theorem byteRows_app (a b : ByteArray) : byteRows (a ++ b) = byteRows a ++ byteRows b := by
  unfold byteRows
  rw [ByteArray.data_append, Array.toList_append, List.map_append]
theorem byteRows_len (a : ByteArray) : (byteRows a).length = a.size := by
  unfold byteRows
  rw [List.length_map, Array.length_toList]; rfl
theorem bytesOf_byteRows (a : ByteArray) : bytesOf (byteRows a) = a := by
  unfold bytesOf byteRows
  rw [List.map_map]
  have : ∀ l : List UInt8, l.map ((fun r => UInt8.ofNat (Row.I r 0).toNat) ∘ fun b : UInt8 => [DV.val (Value.int IntKind.u8 (b.toNat : Int))]) = l := by
    intro l
    induction l with
    | nil => rfl
    | cons b l ih =>
      rw [List.map_cons, ih]
      congr 1
      show UInt8.ofNat (Int.toNat (b.toNat : Int)) = b
      rw [Int.toNat_natCast]; exact UInt8.ofNat_toNat
  rw [this, Array.toArray_toList]
theorem okBytes_byteRows (a : ByteArray) : okBytes (byteRows a) = true := by
  unfold byteRows
  generalize a.data.toList = l
  induction l with
  | nil => rfl
  | cons b l ih =>
    simp only [List.map_cons, okBytes, ih, Bool.and_true, Bool.and_eq_true, decide_eq_true_eq]
    have := UInt8.toNat_lt b
    omega
@[reducible] def pst (nl : Bool) (t : ByteArray) (bad : Bool) : Unit × (Unit × (Bool × Rows) × Bool × Unit) × Unit := ((), (((), ((nl, byteRows t), (bad, ()))), ()))
theorem writes_q {n : Nat} {s t : ByteArray} {nl bad : Bool} (h : t.size + s.size ≤ 140737488355328) : sB_WriteString_v n s nl (byteRows t) bad = some (((s.size : Int), ((), ())), (((), ((nl && s.size == 0, byteRows (t ++ s)), (bad, ()))), ())) := by
  rw [sB_WriteString_e]
  unfold sB_copyCheck_v
  simp only [obind_some]
  rw [if_pos (by rw [byteRows_len]; omega), byteRows_app]
theorem writes_nilp {n : Nat} {s : ByteArray} {bad : Bool} (h : s.size ≤ 140737488355328) : sB_WriteString_nilp_v n s true [] bad = some (((s.size : Int), ((), ())), (((), ((s.size == 0, byteRows s), (bad, ()))), ())) := by
  rw [sB_WriteString_nilp_e]
  unfold sB_copyCheck_nilp_v
  simp only [obind_some]
  rw [if_pos (by simp; omega)]
  simp [appX]
theorem pterm_q {n : Nat} {ahead t : ByteArray} {a : Tm} {nl bad : Bool} (h : TmOk n a) (hn : 10000 < n) (hs : ahead.size ≤ 1000) (ht : t.size ≤ 10000000) :
    sp_term_v n ahead a.1 a.2.1 a.2.2.1 a.2.2.2 nl (byteRows t) bad = some (pst (nl && (ahead ++ tx1 a).size == 0) (t ++ (ahead ++ tx1 a)) (bad || (term1 a).isNone)) := by
  have hsz := tx1_size h.lo h.hi
  have h2 : (ahead ++ tx1 a).size = ahead.size + (tx1 a).size := ByteArray.size_append ..
  rw [sp_term_e, show_T h hn]
  have hw : ∀ b, sB_WriteString_v n (ahead ++ tx1 a) nl (byteRows t) b = _ := fun b => writes_q (bad := b) (nl := nl) (n := n) (s := ahead ++ tx1 a) (t := t) (by omega)
  unfold tx1 at hw hsz h2 ⊢
  cases h1 : term1 a with
  | some s =>
    rw [h1] at hw hsz h2
    simp only [Option.getD_some] at hw hsz h2 ⊢
    simp only [obind_some, hw, show ahead.size + s.size < 4611686018427387904 by omega, if_true]
    cases bad <;> rfl
  | none =>
    rw [h1] at hw hsz h2
    simp only [Option.getD_none] at hw hsz h2 ⊢
    simp only [obind_some, hw, show ahead.size + noB.size < 4611686018427387904 by omega, if_true]
    cases bad <;> rfl
theorem pterm_nilp {n : Nat} {a : Tm} (h : TmOk n a) (hn : 10000 < n) : ∃ nl,
    sp_term_nilp_v n (ByteArray.mk #[]) a.1 a.2.1 a.2.2.1 a.2.2.2 true [] false = some (pst nl (noB ++ tx1 a) (term1 a).isNone) := by
  have hsz := tx1_size h.lo h.hi
  have h2 : (noB ++ tx1 a).size = noB.size + (tx1 a).size := ByteArray.size_append ..
  have h3 : noB.size = 0 := rfl
  rw [sp_term_nilp_e, show_T h hn]
  have hw : ∀ b, sB_WriteString_nilp_v n (noB ++ tx1 a) true [] b = _ := fun b => writes_nilp (bad := b) (n := n) (s := noB ++ tx1 a) (by omega)
  unfold tx1 at hw hsz h2 ⊢
  cases h1 : term1 a with
  | some s =>
    rw [h1] at hw hsz h2
    simp only [Option.getD_some] at hw hsz h2 ⊢
    simp only [obind_some, cond_false]
    rw [if_pos (by rfl), if_pos (show noB.size + s.size < 4611686018427387904 by omega)]
    have hw' : ∀ b, sB_WriteString_nilp_v n (ByteArray.mk #[] ++ s) true [] b = _ := hw
    rw [hw']
    exact ⟨_, rfl⟩
  | none =>
    rw [h1] at hw hsz h2
    simp only [Option.getD_none] at hw hsz h2 ⊢
    simp only [obind_some, cond_false]
    rw [if_pos (by rfl), if_pos (show noB.size + noB.size < 4611686018427387904 by omega)]
    have hw' : ∀ b, sB_WriteString_nilp_v n (ByteArray.mk #[] ++ noB) true [] b = _ := hw
    rw [hw']
    exact ⟨_, rfl⟩
def pmaybe (ahead : ByteArray) (a : Tm) (behind : ByteArray) (t : ByteArray) (bad : Bool) : ByteArray × Bool :=
  bif nilT a then (t, bad) else (t ++ (ahead ++ tx1 a) ++ behind, bad || (term1 a).isNone)
theorem pmaybe_size {n : Nat} {ahead behind t : ByteArray} {a : Tm} {bad : Bool} (h : TmOk n a) (hs : ahead.size ≤ 10) (hb : behind.size ≤ 10) : (pmaybe ahead a behind t bad).1.size ≤ t.size + 60 := by
  have hsz := tx1_size h.lo h.hi
  unfold pmaybe
  cases nilT a with
  | true => show t.size ≤ _; omega
  | false =>
    show (t ++ (ahead ++ tx1 a) ++ behind).size ≤ _
    simp only [ByteArray.size_append]; omega
theorem pmaybe_q {n : Nat} {ahead behind t : ByteArray} {a : Tm} {nl bad : Bool} (h : TmOk n a) (hn : 10000 < n) (hs : ahead.size ≤ 10) (hb : behind.size ≤ 10) (ht : t.size ≤ 1000000) :
    ∃ nl', sp_maybe_v n ahead a.1 a.2.1 a.2.2.1 a.2.2.2 behind nl (byteRows t) bad = some (pst nl' (pmaybe ahead a behind t bad).1 (pmaybe ahead a behind t bad).2) := by
  have hsz := tx1_size h.lo h.hi
  have h2 : (ahead ++ tx1 a).size = ahead.size + (tx1 a).size := ByteArray.size_append ..
  have h3 : (t ++ (ahead ++ tx1 a)).size = t.size + (ahead ++ tx1 a).size := ByteArray.size_append ..
  rw [sp_maybe_e]
  unfold pmaybe
  have e : (a.1 == ByteArray.mk #[] && (a.2.1 == false && (a.2.2.1 == 0 && (a.2.2.2 == ByteArray.mk #[] && true)))) = nilT a := rfl
  rw [e]
  cases hn0 : nilT a with
  | true => simp only [Bool.not_true, cond_false, cond_true]; exact ⟨nl, rfl⟩
  | false =>
    simp only [Bool.not_false, cond_true, cond_false]
    rw [pterm_q h hn (by omega) (by omega)]
    simp only [obind_some]
    rw [writes_q (by omega)]
    exact ⟨_, rfl⟩
end Go.Den
namespace Go.Den
open Go.Proofs
@[reducible] def comma : ByteArray := ByteArray.mk #[44, 32]
@[reducible] def wordS (s : ByteArray) : Bool := namedS isSmall s && !keptS s
def pargs : Nat → Rows → ByteArray → Bool → ByteArray × Bool
  | _, [], t, bad => (t ++ ByteArray.mk #[41], bad)
  | q, r :: l, t, bad => pargs (q + 1) l (bif bad then (bif decide (0 < q) then t ++ comma else t) else (bif decide (0 < q) then t ++ comma else t) ++ (noB ++ tx1 (tmAt r 0))) (bif bad then true else (term1 (tmAt r 0)).isNone)
def patom (pred : ByteArray) (args : Rows) (t : ByteArray) (bad : Bool) : ByteArray × Bool :=
  pargs 0 args (t ++ (pred ++ ByteArray.mk #[40])) (bad || (!wordS pred || decide (args.length > 4)))
theorem pargs_size {n : Nat} : ∀ (l : Rows) (q : Nat) (t : ByteArray) (bad : Bool), (∀ r ∈ l, TmOk n (tmAt r 0)) → (pargs q l t bad).1.size ≤ t.size + 50 * l.length + 1
  | [], q, t, bad, _ => by
    show (t ++ ByteArray.mk #[41]).size ≤ _
    rw [ByteArray.size_append]
    have : (ByteArray.mk #[41]).size = 1 := rfl
    simp only [List.length_nil]; omega
  | r :: l, q, t, bad, h => by
    have h0 := h r List.mem_cons_self
    have hsz := tx1_size h0.lo h0.hi
    have e2 : comma.size = 2 := rfl
    have e0 : noB.size = 0 := rfl
    unfold pargs
    have ih := fun t' b' => pargs_size (n := n) l (q + 1) t' b' (fun r hr => h r (List.mem_cons_of_mem _ hr))
    refine Nat.le_trans (ih _ _) ?_
    simp only [List.length_cons]
    cases bad <;> cases decide (0 < q) <;> simp only [cond_true, cond_false, ByteArray.size_append] <;> omega
theorem patom_loop {n : Nat} {s0 : ByteArray} {b1 : Bool} {r2 : Rows} {b3 : Bool} {r4 : Rows} {b5 : Bool} (hn : 10000 < n) (hr : ∀ r ∈ r2, TmOk n (tmAt r 0)) (hl : r2.length ≤ 1000) :
    ∀ k q : Nat, q + k = r2.length → ∀ f nl t bad, k < f → t.size ≤ 1000000 + 50 * q → ∃ nl', sp_atom_l3 n s0 b1 r2 b3 r4 b5 f nl (byteRows t) bad (q : Int) = some (pst nl' (pargs q (r2.drop q) t bad).1 (pargs q (r2.drop q) t bad).2) := by
  intro k
  induction k with
  | zero =>
    intro q hq f nl t bad hf ht
    obtain ⟨f, rfl⟩ : ∃ z, f = z + 1 := ⟨f - 1, by omega⟩
    rw [sp_atom_s3, List.drop_eq_nil_of_le (by omega)]
    have h1 : ¬ (q : Int) < (r2.length : Int) := by omega
    have e1 : (ByteArray.mk #[41]).size = 1 := rfl
    simp only [h1, decide_false, cond_false, pargs]
    rw [writes_q (s := ByteArray.mk #[41]) (t := t) (by omega)]
    exact ⟨_, rfl⟩
  | succ k ih =>
    intro q hq f nl t bad hf ht
    obtain ⟨f, rfl⟩ : ∃ z, f = z + 1 := ⟨f - 1, by omega⟩
    have hlt : q < r2.length := by omega
    have h1 : (q : Int) < (r2.length : Int) := by omega
    have h2 : (0 : Int) ≤ (q : Int) := by omega
    have h0 := hr _ (List.getElem_mem hlt)
    have hsz := tx1_size h0.lo h0.hi
    have e2 : comma.size = 2 := rfl
    have e0 : noB.size = 0 := rfl
    rw [sp_atom_s3, List.drop_eq_getElem_cons hlt, wrap_succ (show q < big by unfold big; omega)]
    simp only [h1, h2, if_true, decide_true, cond_true, Int.toNat_natCast, getD_get hlt, pargs]
    have hdec : decide ((q : Int) > 0) = decide (0 < q) := decide_eq_decide.2 (by omega)
    rw [hdec]
    have hT : ∀ nl' t' bad', t'.size ≤ 1000000 + 50 * q + 2 → sp_term_v n (ByteArray.mk #[]) (Row.S r2[q] 0) (Row.B r2[q] 1) (Row.I r2[q] 2) (Row.S r2[q] 3) nl' (byteRows t') bad' = some (pst (nl' && (noB ++ tx1 (tmAt r2[q] 0)).size == 0) (t' ++ (noB ++ tx1 (tmAt r2[q] 0))) (bad' || (term1 (tmAt r2[q] 0)).isNone)) := fun nl' t' bad' hh => by
      have := pterm_q (ahead := noB) (t := t') (nl := nl') (bad := bad') h0 hn (by omega) (by omega)
      exact this
    cases hq0 : decide (0 < q) with
    | true =>
      simp only [cond_true]
      rw [writes_q (s := comma) (t := t) (by omega)]
      simp only [obind_some]
      cases bad with
      | true =>
        simp only [Bool.not_true, cond_false]
        exact ih (q + 1) (by omega) f _ (t ++ comma) true (by omega) (by rw [ByteArray.size_append]; omega)
      | false =>
        simp only [Bool.not_false, cond_true, cond_false]
        rw [hT _ (t ++ comma) false (by rw [ByteArray.size_append]; omega)]
        simp only [obind_some, Bool.false_or]
        exact ih (q + 1) (by omega) f _ (t ++ comma ++ (noB ++ tx1 (tmAt r2[q] 0))) _ (by omega) (by simp only [ByteArray.size_append]; omega)
    | false =>
      simp only [cond_false]
      cases bad with
      | true =>
        simp only [Bool.not_true, cond_false]
        exact ih (q + 1) (by omega) f _ t true (by omega) (by omega)
      | false =>
        simp only [Bool.not_false, cond_true]
        rw [hT _ t false (by omega)]
        simp only [obind_some, Bool.false_or]
        exact ih (q + 1) (by omega) f _ (t ++ (noB ++ tx1 (tmAt r2[q] 0))) _ (by omega) (by simp only [ByteArray.size_append]; omega)
theorem patom_q {n : Nat} {pred : ByteArray} {anl : Bool} {args : Rows} {t : ByteArray} {nl bad : Bool} (hn : 10000 < n) (hp : pred.size ≤ 5000) (hr : ∀ r ∈ args, TmOk n (tmAt r 0)) (hl : args.length ≤ 1000) (ht : t.size ≤ 900000) :
    ∃ nl', sp_atom_v n pred anl args nl (byteRows t) bad = some (pst nl' (patom pred args t bad).1 (patom pred args t bad).2) := by
  have e1 : (ByteArray.mk #[40]).size = 1 := rfl
  have e2 : (pred ++ ByteArray.mk #[40]).size = pred.size + (ByteArray.mk #[40]).size := ByteArray.size_append ..
  have e3 : pred.size + 1 < 4611686018427387904 := by omega
  have hw : ∀ b, sB_WriteString_v n (pred ++ ByteArray.mk #[40]) nl (byteRows t) b = _ := fun b => writes_q (bad := b) (nl := nl) (n := n) (s := pred ++ ByteArray.mk #[40]) (t := t) (by omega)
  have hdec : decide ((args.length : Int) > 4) = decide (args.length > 4) := decide_eq_decide.2 (by omega)
  have hlp : ∀ nl' bad', ∃ nl'', sp_atom_l3 n pred anl args nl (byteRows t) bad n nl' (byteRows (t ++ (pred ++ ByteArray.mk #[40]))) bad' 0 = some (pst nl'' (pargs 0 args (t ++ (pred ++ ByteArray.mk #[40])) bad').1 (pargs 0 args (t ++ (pred ++ ByteArray.mk #[40])) bad').2) := fun nl' bad' => by
    have := patom_loop (n := n) (s0 := pred) (b1 := anl) (r2 := args) (b3 := nl) (r4 := byteRows t) (b5 := bad) hn hr hl args.length 0 (by omega) n nl' (t ++ (pred ++ ByteArray.mk #[40])) bad' (by omega) (by simp only [ByteArray.size_append]; omega)
    exact this
  rw [sp_atom_e]
  unfold patom
  cases bad with
  | true =>
    simp only [cond_true, e3, if_true, hw, obind_some, Bool.true_or]
    exact hlp _ true
  | false =>
    simp only [cond_false, show_word_q hn, obind_some, e3, if_true, hw, Bool.false_or, hdec]
    show ∃ nl', (bif !wordS pred then _ else _) = _
    cases hw2 : wordS pred with
    | false => simp only [Bool.not_false, cond_true, Bool.true_or]; exact hlp _ true
    | true => simp only [Bool.not_true, cond_false, Bool.false_or]; exact hlp _ _
end Go.Den
namespace Go.Den
open Go.Proofs
@[reducible] def bSays : ByteArray := ByteArray.mk #[32, 115, 97, 121, 115, 32]
@[reducible] def bAt : ByteArray := ByteArray.mk #[32, 97, 116, 32]
@[reducible] def bTo : ByteArray := ByteArray.mk #[32, 116, 111, 32]
@[reducible] def bColon : ByteArray := ByteArray.mk #[58, 32]
@[reducible] def bIf : ByteArray := ByteArray.mk #[32, 58, 45, 32]
structure LitOk (n : Nat) (l : Row) : Prop where
  by_ : TmOk n (tmAt l 0)
  pred : (Row.S l 4).size ≤ 5000
  len : (Row.R l 5).length ≤ 1000
  args : ∀ r ∈ Row.R l 5, TmOk n (tmAt r 0)
  at_ : TmOk n (tmAt l 6)
structure RuleOk (n : Nat) (r : Row) : Prop where
  home : TmOk n (tmAt r 0)
  pred : (Row.S r 4).size ≤ 5000
  len : (Row.R r 5).length ≤ 1000
  args : ∀ a ∈ Row.R r 5, TmOk n (tmAt a 0)
  to_ : TmOk n (tmAt r 6)
  blen : (Row.R r 10).length ≤ 1000
  body : ∀ l ∈ Row.R r 10, LitOk n l
theorem patom_size {n : Nat} {pred : ByteArray} {args : Rows} {t : ByteArray} {bad : Bool} (hr : ∀ r ∈ args, TmOk n (tmAt r 0)) : (patom pred args t bad).1.size ≤ t.size + pred.size + 50 * args.length + 2 := by
  unfold patom
  refine Nat.le_trans (pargs_size args 0 _ _ hr) ?_
  have e1 : (ByteArray.mk #[40]).size = 1 := rfl
  simp only [ByteArray.size_append]; omega
def plit (l : Row) (t : ByteArray) (bad : Bool) : ByteArray × Bool :=
  pmaybe bAt (tmAt l 6) noB (patom (Row.S l 4) (Row.R l 5) (pmaybe noB (tmAt l 0) bSays t bad).1 (pmaybe noB (tmAt l 0) bSays t bad).2).1 (patom (Row.S l 4) (Row.R l 5) (pmaybe noB (tmAt l 0) bSays t bad).1 (pmaybe noB (tmAt l 0) bSays t bad).2).2
theorem plit_size {n : Nat} {l : Row} {t : ByteArray} {bad : Bool} (h : LitOk n l) (ha : (Row.R l 5).length ≤ 4) : (plit l t bad).1.size ≤ t.size + 6000 := by
  unfold plit
  have a1 := pmaybe_size (n := n) (ahead := noB) (behind := bSays) (t := t) (bad := bad) h.by_ (by decide) (by decide)
  have a2 := patom_size (pred := Row.S l 4) (args := Row.R l 5) (t := (pmaybe noB (tmAt l 0) bSays t bad).1) (bad := (pmaybe noB (tmAt l 0) bSays t bad).2) h.args
  have a3 := pmaybe_size (n := n) (ahead := bAt) (behind := noB) (t := (patom (Row.S l 4) (Row.R l 5) (pmaybe noB (tmAt l 0) bSays t bad).1 (pmaybe noB (tmAt l 0) bSays t bad).2).1) (bad := (patom (Row.S l 4) (Row.R l 5) (pmaybe noB (tmAt l 0) bSays t bad).1 (pmaybe noB (tmAt l 0) bSays t bad).2).2) h.at_ (by decide) (by decide)
  have := h.pred
  omega
theorem pmaybe_ge {ahead behind t : ByteArray} {a : Tm} {bad : Bool} : t.size ≤ (pmaybe ahead a behind t bad).1.size := by
  unfold pmaybe
  cases nilT a with
  | true => exact Nat.le_refl _
  | false => simp only [cond_false, ByteArray.size_append]; omega
theorem pargs_ge : ∀ (l : Rows) (q : Nat) (t : ByteArray) (bad : Bool), t.size ≤ (pargs q l t bad).1.size
  | [], q, t, bad => by
    show _ ≤ (t ++ ByteArray.mk #[41]).size
    rw [ByteArray.size_append]; omega
  | r :: l, q, t, bad => by
    unfold pargs
    refine Nat.le_trans ?_ (pargs_ge l (q + 1) _ _)
    cases bad <;> cases decide (0 < q) <;> simp only [cond_true, cond_false, ByteArray.size_append] <;> omega
theorem patom_ge {pred : ByteArray} {args : Rows} {t : ByteArray} {bad : Bool} : t.size ≤ (patom pred args t bad).1.size := by
  unfold patom
  refine Nat.le_trans ?_ (pargs_ge args 0 _ _)
  rw [ByteArray.size_append]; omega
theorem plit_ge {l : Row} {t : ByteArray} {bad : Bool} : t.size ≤ (plit l t bad).1.size := by
  unfold plit
  exact Nat.le_trans pmaybe_ge (Nat.le_trans patom_ge pmaybe_ge)
def pbody : Nat → Rows → ByteArray → Bool → Option ByteArray
  | _, [], t, bad => bif bad then none else some (t ++ ByteArray.mk #[46])
  | q, l :: ls, t, bad => bif bad then none else bif decide ((Row.R l 5).length > 4) then none else
    pbody (q + 1) ls (plit l (bif decide (0 < q) then t ++ comma else t) bad).1 (plit l (bif decide (0 < q) then t ++ comma else t) bad).2
def outS (o : Option ByteArray) : (ByteArray × Int × Unit) × Unit := match o with | some s => ((s, (0, ())), ()) | none => ((noB, (100, ())), ())
theorem string_q {n : Nat} {nl bad : Bool} {t : ByteArray} (h : 1 ≤ t.size) : sB_String_v n nl (byteRows t) bad = some (t, (((), ((nl, byteRows t), (bad, ()))), ())) := by
  unfold sB_String_v
  have h1 : (byteRows t).isEmpty = false := by
    have := byteRows_len t
    cases hb : byteRows t with
    | nil => rw [hb] at this; simp at this; omega
    | cons a l => rfl
  rw [h1, okBytes_byteRows, bytesOf_byteRows]
  rfl
theorem plit_q {n : Nat} {l : Row} {t : ByteArray} {nl bad : Bool} (hn : 10000 < n) (h : LitOk n l) (ht : t.size ≤ 800000) (ha : (Row.R l 5).length ≤ 4) {R : Type} (k : Unit × (Unit × (Bool × Rows) × Bool × Unit) × Unit → Option R) : ∃ nl',
    (obind (sp_maybe_v n (ByteArray.mk #[]) (Row.S l 0) (Row.B l 1) (Row.I l 2) (Row.S l 3) bSays nl (byteRows t) bad) fun y =>
     obind (sp_atom_v n (Row.S l 4) (Row.N l 5) (Row.R l 5) y.snd.fst.snd.fst.fst y.snd.fst.snd.fst.snd y.snd.fst.snd.snd.fst) fun z =>
     obind (sp_maybe_v n bAt (Row.S l 6) (Row.B l 7) (Row.I l 8) (Row.S l 9) (ByteArray.mk #[]) z.snd.fst.snd.fst.fst z.snd.fst.snd.fst.snd z.snd.fst.snd.snd.fst) k) = k (pst nl' (plit l t bad).1 (plit l t bad).2) := by
  have a1 := pmaybe_size (n := n) (ahead := noB) (behind := bSays) (t := t) (bad := bad) h.by_ (by decide) (by decide)
  have a2 := patom_size (pred := Row.S l 4) (args := Row.R l 5) (t := (pmaybe noB (tmAt l 0) bSays t bad).1) (bad := (pmaybe noB (tmAt l 0) bSays t bad).2) h.args
  have a3 := h.pred
  obtain ⟨n1, h1⟩ := pmaybe_q (n := n) (ahead := noB) (behind := bSays) (t := t) (nl := nl) (bad := bad) h.by_ hn (by decide) (by decide) (by omega)
  obtain ⟨n2, h2⟩ := patom_q (n := n) (pred := Row.S l 4) (anl := Row.N l 5) (args := Row.R l 5) (t := (pmaybe noB (tmAt l 0) bSays t bad).1) (nl := n1) (bad := (pmaybe noB (tmAt l 0) bSays t bad).2) hn h.pred h.args h.len (by omega)
  obtain ⟨n3, h3⟩ := pmaybe_q (n := n) (ahead := bAt) (behind := noB) (t := (patom (Row.S l 4) (Row.R l 5) (pmaybe noB (tmAt l 0) bSays t bad).1 (pmaybe noB (tmAt l 0) bSays t bad).2).1) (nl := n2) (bad := (patom (Row.S l 4) (Row.R l 5) (pmaybe noB (tmAt l 0) bSays t bad).1 (pmaybe noB (tmAt l 0) bSays t bad).2).2) h.at_ hn (by decide) (by decide) (by omega)
  have h1' : sp_maybe_v n (ByteArray.mk #[]) (Row.S l 0) (Row.B l 1) (Row.I l 2) (Row.S l 3) bSays nl (byteRows t) bad = _ := h1
  have h3' : sp_maybe_v n bAt (Row.S l 6) (Row.B l 7) (Row.I l 8) (Row.S l 9) (ByteArray.mk #[]) _ _ _ = _ := h3
  refine ⟨n3, ?_⟩
  rw [h1']
  simp only [obind_some]
  rw [h2]
  simp only [obind_some]
  rw [h3']
  rfl
section
variable {n : Nat} {s0 : ByteArray} {b1 : Bool} {j2 : Int} {s3 s4 : ByteArray} {b5 : Bool} {r6 : Rows} {s7 : ByteArray} {b8 : Bool} {j9 : Int} {s10 : ByteArray} {b11 : Bool} {r12 : Rows}
theorem pbody_q (hn : 10000 < n) (hr : ∀ l ∈ r12, LitOk n l) (hl : r12.length ≤ 10) : ∀ k q : Nat, q + k = r12.length → ∀ f nl t bad, k < f → 1 ≤ t.size → t.size ≤ 100000 + 10000 * q →
    show_Rule_l10 n s0 b1 j2 s3 s4 b5 r6 s7 b8 j9 s10 b11 r12 f nl (byteRows t) bad (q : Int) = some (outS (pbody q (r12.drop q) t bad)) := by
  intro k
  induction k with
  | zero =>
    intro q hq f nl t bad hf h0 ht
    obtain ⟨f, rfl⟩ : ∃ z, f = z + 1 := ⟨f - 1, by omega⟩
    rw [show_Rule_s10, List.drop_eq_nil_of_le (by omega)]
    have h1 : ¬ (q : Int) < (r12.length : Int) := by omega
    simp only [h1, decide_false, cond_false, pbody]
    cases bad with
    | true => rfl
    | false =>
      simp only [cond_false]
      rw [string_q h0]
      simp only [obind_some, show t.size + 1 < 4611686018427387904 by omega, if_true]
      rfl
  | succ k ih =>
    intro q hq f nl t bad hf h0 ht
    obtain ⟨f, rfl⟩ : ∃ z, f = z + 1 := ⟨f - 1, by omega⟩
    have hlt : q < r12.length := by omega
    have h1 : (q : Int) < (r12.length : Int) := by omega
    have h2 : (0 : Int) ≤ (q : Int) := by omega
    have hL := hr _ (List.getElem_mem hlt)
    have e2 : comma.size = 2 := rfl
    have hdec : decide ((q : Int) > 0) = decide (0 < q) := decide_eq_decide.2 (by omega)
    have hd4 : decide (((Row.R r12[q] 5).length : Int) > 4) = decide ((Row.R r12[q] 5).length > 4) := decide_eq_decide.2 (by omega)
    rw [show_Rule_s10, List.drop_eq_getElem_cons hlt, wrap_succ (show q < big by unfold big; omega)]
    simp only [h1, h2, if_true, decide_true, cond_true, Int.toNat_natCast, getD_get hlt, pbody, hdec, hd4]
    cases hq0 : decide (0 < q) with
    | true =>
      simp only [cond_true]
      rw [writes_q (s := comma) (t := t) (by omega)]
      simp only [obind_some]
      cases bad with
      | true => rfl
      | false =>
        simp only [cond_false]
        by_cases h4 : (Row.R r12[q] 5).length > 4
        · simp only [h4, decide_true, cond_true]; rfl
        · simp only [h4, decide_false, cond_false]
          have hs := plit_size (t := t ++ comma) (bad := false) hL (by omega)
          have hsz : (t ++ comma).size = t.size + comma.size := ByteArray.size_append ..
          obtain ⟨nl', he⟩ := plit_q (t := t ++ comma) (nl := nl && comma.size == 0) (bad := false) hn hL (by omega) (by omega) (fun y => show_Rule_l10 n s0 b1 j2 s3 s4 b5 r6 s7 b8 j9 s10 b11 r12 f y.snd.fst.snd.fst.fst y.snd.fst.snd.fst.snd y.snd.fst.snd.snd.fst ((q + 1 : Nat) : Int))
          refine he.trans ?_
          have hge := plit_ge (l := r12[q]) (t := t ++ comma) (bad := false)
          have hq1 : 100000 + 10000 * (q + 1) = 100000 + 10000 * q + 10000 := by omega
          exact ih (q + 1) (by omega) f nl' (plit r12[q] (t ++ comma) false).1 (plit r12[q] (t ++ comma) false).2 (by omega) (by omega) (by rw [hq1]; omega)
    | false =>
      simp only [cond_false]
      cases bad with
      | true => rfl
      | false =>
        simp only [cond_false]
        by_cases h4 : (Row.R r12[q] 5).length > 4
        · simp only [h4, decide_true, cond_true]; rfl
        · simp only [h4, decide_false, cond_false]
          have hs := plit_size (t := t) (bad := false) hL (by omega)
          obtain ⟨nl', he⟩ := plit_q (t := t) (nl := nl) (bad := false) hn hL (by omega) (by omega) (fun y => show_Rule_l10 n s0 b1 j2 s3 s4 b5 r6 s7 b8 j9 s10 b11 r12 f y.snd.fst.snd.fst.fst y.snd.fst.snd.fst.snd y.snd.fst.snd.snd.fst ((q + 1 : Nat) : Int))
          refine he.trans ?_
          have hge := plit_ge (l := r12[q]) (t := t) (bad := false)
          have hq1 : 100000 + 10000 * (q + 1) = 100000 + 10000 * q + 10000 := by omega
          exact ih (q + 1) (by omega) f nl' (plit r12[q] (t) false).1 (plit r12[q] (t) false).2 (by omega) (by omega) (by rw [hq1]; omega)
end
def prule (r : Row) : Option ByteArray :=
  bif decide ((Row.R r 10).length < 1) then none else bif decide ((Row.R r 10).length > 4) then none else bif decide ((Row.R r 5).length > 4) then none else
  pbody 0 (Row.R r 10) ((pmaybe bTo (tmAt r 6) noB (patom (Row.S r 4) (Row.R r 5) (noB ++ tx1 (tmAt r 0) ++ bColon) (term1 (tmAt r 0)).isNone).1 (patom (Row.S r 4) (Row.R r 5) (noB ++ tx1 (tmAt r 0) ++ bColon) (term1 (tmAt r 0)).isNone).2).1 ++ bIf)
    (pmaybe bTo (tmAt r 6) noB (patom (Row.S r 4) (Row.R r 5) (noB ++ tx1 (tmAt r 0) ++ bColon) (term1 (tmAt r 0)).isNone).1 (patom (Row.S r 4) (Row.R r 5) (noB ++ tx1 (tmAt r 0) ++ bColon) (term1 (tmAt r 0)).isNone).2).2
theorem show_Rule_q {n : Nat} {r : Row} (hn : 10000 < n) (h : RuleOk n r) : show_Rule_v n (Row.S r 0) (Row.B r 1) (Row.I r 2) (Row.S r 3) (Row.S r 4) (Row.N r 5) (Row.R r 5) (Row.S r 6) (Row.B r 7) (Row.I r 8) (Row.S r 9) (Row.N r 10) (Row.R r 10) = some (outS (prule r)) := by
  rw [show_Rule_e]
  unfold prule
  have d1 : decide (((Row.R r 10).length : Int) < 1) = decide ((Row.R r 10).length < 1) := decide_eq_decide.2 (by omega)
  have d2 : decide (((Row.R r 10).length : Int) > 4) = decide ((Row.R r 10).length > 4) := decide_eq_decide.2 (by omega)
  have d3 : decide (((Row.R r 5).length : Int) > 4) = decide ((Row.R r 5).length > 4) := decide_eq_decide.2 (by omega)
  rw [d1, d2, d3]
  by_cases h1 : (Row.R r 10).length < 1
  · simp only [h1, decide_true, cond_true]; rfl
  by_cases h2 : (Row.R r 10).length > 4
  · simp only [h1, h2, decide_true, decide_false, cond_true, cond_false]; rfl
  by_cases h3 : (Row.R r 5).length > 4
  · simp only [h1, h2, h3, decide_true, decide_false, cond_true, cond_false]; rfl
  simp only [h1, h2, h3, decide_false, cond_false]
  have hT := tx1_size h.home.lo h.home.hi
  obtain ⟨n1, e1⟩ := pterm_nilp h.home hn
  have e1' : sp_term_nilp_v n (ByteArray.mk #[]) (Row.S r 0) (Row.B r 1) (Row.I r 2) (Row.S r 3) true [] false = some (pst n1 (noB ++ tx1 (tmAt r 0)) (term1 (tmAt r 0)).isNone) := e1
  rw [e1']
  simp only [obind_some]
  have z1 : (noB ++ tx1 (tmAt r 0)).size = noB.size + (tx1 (tmAt r 0)).size := ByteArray.size_append ..
  have z2 : (noB ++ tx1 (tmAt r 0) ++ bColon).size = (noB ++ tx1 (tmAt r 0)).size + bColon.size := ByteArray.size_append ..
  have c0 : noB.size = 0 := rfl
  have c1 : bColon.size = 2 := rfl
  have c2 : bIf.size = 4 := rfl
  rw [writes_q (s := bColon) (t := noB ++ tx1 (tmAt r 0)) (by omega)]
  simp only [obind_some]
  generalize ht0 : noB ++ tx1 (tmAt r 0) ++ bColon = t0 at z2 ⊢
  generalize (term1 (tmAt r 0)).isNone = bad0
  obtain ⟨n2, e2⟩ := patom_q (n := n) (pred := Row.S r 4) (anl := Row.N r 5) (args := Row.R r 5) (t := t0) (nl := n1 && bColon.size == 0) (bad := bad0) hn h.pred h.args h.len (by omega)
  rw [e2]
  simp only [obind_some]
  have z3 := patom_size (pred := Row.S r 4) (args := Row.R r 5) (t := t0) (bad := bad0) h.args
  have hp := h.pred
  generalize patom (Row.S r 4) (Row.R r 5) t0 bad0 = a at z3 ⊢
  obtain ⟨n3, e3⟩ := pmaybe_q (n := n) (ahead := bTo) (behind := noB) (t := a.1) (nl := n2) (bad := a.2) h.to_ hn (by decide) (by decide) (by omega)
  have e3' : sp_maybe_v n bTo (Row.S r 6) (Row.B r 7) (Row.I r 8) (Row.S r 9) (ByteArray.mk #[]) n2 (byteRows a.1) a.2 = _ := e3
  rw [e3']
  simp only [obind_some]
  have z4 := pmaybe_size (n := n) (ahead := bTo) (behind := noB) (t := a.1) (bad := a.2) h.to_ (by decide) (by decide)
  generalize pmaybe bTo (tmAt r 6) noB a.1 a.2 = m at z4 ⊢
  rw [writes_q (s := bIf) (t := m.1) (by omega)]
  simp only [obind_some]
  have z5 : (m.1 ++ bIf).size = m.1.size + bIf.size := ByteArray.size_append ..
  have := pbody_q (n := n) (s0 := Row.S r 0) (b1 := Row.B r 1) (j2 := Row.I r 2) (s3 := Row.S r 3) (s4 := Row.S r 4) (b5 := Row.N r 5) (r6 := Row.R r 5) (s7 := Row.S r 6) (b8 := Row.B r 7) (j9 := Row.I r 8) (s10 := Row.S r 9) (b11 := Row.N r 10) (r12 := Row.R r 10)
    hn h.body (by omega) (Row.R r 10).length 0 (by omega) n (n3 && bIf.size == 0) (m.1 ++ bIf) m.2 (by have := h.blen; omega) (by omega) (by omega)
  exact this
end Go.Den
namespace Go.Den
open Go.Proofs
def refArgs : Nat → Rows → ByteArray → Option ByteArray
  | _, [], acc => some (acc ++ ByteArray.mk #[41])
  | q, r :: l, acc => match term1 (tmAt r 0) with
    | some s => refArgs (q + 1) l (bif decide (0 < q) then acc ++ comma ++ s else acc ++ s)
    | none => none
def atomR (pred : ByteArray) (args : Rows) : Option ByteArray := bif wordS pred then bif decide (args.length > 4) then none else refArgs 0 args (pred ++ ByteArray.mk #[40]) else none
def maybeR (ahead : ByteArray) (a : Tm) (behind : ByteArray) : Option ByteArray := bif nilT a then some noB else match term1 a with | some s => some (ahead ++ s ++ behind) | none => none
def litR (l : Row) : Option ByteArray :=
  match maybeR noB (tmAt l 0) bSays, atomR (Row.S l 4) (Row.R l 5), maybeR bAt (tmAt l 6) noB with
  | some x, some y, some z => some (x ++ y ++ z)
  | _, _, _ => none
def bodyR : Nat → Rows → ByteArray → Option ByteArray
  | _, [], acc => some (acc ++ ByteArray.mk #[46])
  | q, l :: ls, acc => match litR l with
    | some s => bodyR (q + 1) ls (bif decide (0 < q) then acc ++ comma ++ s else acc ++ s)
    | none => none
def headR (r : Row) : Option ByteArray :=
  match term1 (tmAt r 0), atomR (Row.S r 4) (Row.R r 5), maybeR bTo (tmAt r 6) noB with
  | some h, some a, some m => some (h ++ bColon ++ a ++ m ++ bIf)
  | _, _, _ => none
def ruleR (r : Row) : Option ByteArray :=
  bif decide ((Row.R r 10).length < 1) then none else bif decide ((Row.R r 10).length > 4) then none else
  match headR r with
  | some s => bodyR 0 (Row.R r 10) s
  | none => none
theorem emp_append (a : ByteArray) : noB ++ a = a := by
  have h : (noB ++ a).data = a.data := by rw [ByteArray.data_append]; simp
  cases a; cases h' : (noB ++ _); simp_all
theorem append_emp (a : ByteArray) : a ++ noB = a := by
  have h : (a ++ noB).data = a.data := by rw [ByteArray.data_append]; simp
  cases a; cases h' : (_ ++ noB); simp_all
theorem tx1_some {t : Tm} {s : ByteArray} (h : term1 t = some s) : tx1 t = s := by unfold tx1; rw [h]; rfl
theorem pargs_bad : ∀ (l : Rows) (q : Nat) (t : ByteArray), (pargs q l t true).2 = true
  | [], q, t => rfl
  | r :: l, q, t => by unfold pargs; exact pargs_bad l (q + 1) _
theorem pargs_ref : ∀ (l : Rows) (q : Nat) (pre acc : ByteArray), match refArgs q l acc with | some s => pargs q l (pre ++ acc) false = (pre ++ s, false) | none => (pargs q l (pre ++ acc) false).2 = true
  | [], q, pre, acc => by
    show (pre ++ acc ++ ByteArray.mk #[41], false) = (pre ++ (acc ++ ByteArray.mk #[41]), false)
    rw [ByteArray.append_assoc]
  | r :: l, q, pre, acc => by
    unfold refArgs pargs
    cases ht : term1 (tmAt r 0) with
    | none =>
      simp only [Option.isNone_none, cond_false]
      exact pargs_bad l (q + 1) _
    | some s =>
      simp only [cond_false, Option.isNone_some, tx1_some ht, emp_append]
      cases hq : decide (0 < q) with
      | true =>
        have := pargs_ref l (q + 1) pre (acc ++ comma ++ s)
        simp only [cond_true, ← ByteArray.append_assoc] at this ⊢
        exact this
      | false =>
        have := pargs_ref l (q + 1) pre (acc ++ s)
        simp only [cond_false, ← ByteArray.append_assoc] at this ⊢
        exact this
theorem patom_bad {pred t : ByteArray} {args : Rows} : (patom pred args t true).2 = true := pargs_bad _ _ _
theorem patom_ref {pred t : ByteArray} {args : Rows} : match atomR pred args with | some s => patom pred args t false = (t ++ s, false) | none => (patom pred args t false).2 = true := by
  unfold atomR patom
  cases wordS pred with
  | false => simp only [Bool.not_false, Bool.true_or, Bool.or_true, cond_false]; exact pargs_bad _ _ _
  | true =>
    cases decide (args.length > 4) with
    | true => exact pargs_bad _ _ _
    | false => exact pargs_ref args 0 t (pred ++ ByteArray.mk #[40])
theorem pmaybe_bad {a b t : ByteArray} {x : Tm} : (pmaybe a x b t true).2 = true := by
  unfold pmaybe; cases nilT x <;> rfl
theorem pmaybe_ref {a b t : ByteArray} {x : Tm} : match maybeR a x b with | some s => pmaybe a x b t false = (t ++ s, false) | none => (pmaybe a x b t false).2 = true := by
  unfold maybeR pmaybe
  cases nilT x with
  | true => simp only [cond_true, append_emp]
  | false =>
    simp only [cond_false]
    cases ht : term1 x with
    | none => rfl
    | some s => simp only [tx1_some ht, Option.isNone_some, Bool.or_self, ByteArray.append_assoc]
theorem plit_ref {l : Row} {t : ByteArray} : match litR l with | some s => plit l t false = (t ++ s, false) | none => (plit l t false).2 = true := by
  unfold litR plit
  have h1 := pmaybe_ref (a := noB) (b := bSays) (t := t) (x := tmAt l 0)
  cases e1 : maybeR noB (tmAt l 0) bSays with
  | none =>
    rw [e1] at h1
    simp only at h1 ⊢
    rw [h1, patom_bad, pmaybe_bad]
  | some x =>
    rw [e1] at h1
    simp only at h1 ⊢
    rw [h1]
    have h2 := patom_ref (pred := Row.S l 4) (args := Row.R l 5) (t := t ++ x)
    cases e2 : atomR (Row.S l 4) (Row.R l 5) with
    | none =>
      rw [e2] at h2
      simp only at h2 ⊢
      rw [h2, pmaybe_bad]
    | some y =>
      rw [e2] at h2
      simp only at h2 ⊢
      rw [h2]
      have h3 := pmaybe_ref (a := bAt) (b := noB) (t := t ++ x ++ y) (x := tmAt l 6)
      cases e3 : maybeR bAt (tmAt l 6) noB with
      | none => rw [e3] at h3; exact h3
      | some z =>
        rw [e3] at h3
        simp only at h3 ⊢
        rw [h3]; simp only [ByteArray.append_assoc]
theorem pbody_bad : ∀ (l : Rows) (q : Nat) (t : ByteArray), pbody q l t true = none
  | [], q, t => rfl
  | l :: ls, q, t => rfl
theorem atomR_long {pred : ByteArray} {args : Rows} (h : args.length > 4) : atomR pred args = none := by
  unfold atomR
  rw [decide_eq_true h]
  cases wordS pred <;> rfl
theorem pbody_ref : ∀ (l : Rows) (q : Nat) (t : ByteArray), pbody q l t false = bodyR q l t
  | [], q, t => rfl
  | l :: ls, q, t => by
    unfold pbody bodyR
    simp only [cond_false]
    have h := plit_ref (l := l) (t := bif decide (0 < q) then t ++ comma else t)
    by_cases h4 : (Row.R l 5).length > 4
    · have : litR l = none := by
        unfold litR
        rw [atomR_long h4]
        cases maybeR noB (tmAt l 0) bSays <;> rfl
      rw [this, decide_eq_true h4]; rfl
    · rw [decide_eq_false h4]
      simp only [cond_false]
      cases e : litR l with
      | none =>
        rw [e] at h
        simp only at h ⊢
        rw [h, pbody_bad]
      | some s =>
        rw [e] at h
        simp only at h ⊢
        rw [h, pbody_ref]
        cases decide (0 < q) <;> simp only [cond_true, cond_false, ByteArray.append_assoc]
theorem prule_ref (r : Row) : prule r = ruleR r := by
  unfold prule ruleR headR
  cases decide ((Row.R r 10).length < 1) with
  | true => rfl
  | false =>
  cases decide ((Row.R r 10).length > 4) with
  | true => rfl
  | false =>
  simp only [cond_false]
  by_cases h4 : (Row.R r 5).length > 4
  · rw [decide_eq_true h4, atomR_long h4]
    cases term1 (tmAt r 0) <;> rfl
  · rw [decide_eq_false h4]
    simp only [cond_false]
    cases e0 : term1 (tmAt r 0) with
    | none =>
      simp only [Option.isNone_none]
      rw [patom_bad, pmaybe_bad, pbody_bad]
    | some h =>
      simp only [Option.isNone_some, tx1_some e0, emp_append]
      have h2 := patom_ref (pred := Row.S r 4) (args := Row.R r 5) (t := h ++ bColon)
      cases e2 : atomR (Row.S r 4) (Row.R r 5) with
      | none =>
        rw [e2] at h2
        simp only at h2 ⊢
        rw [h2, pmaybe_bad, pbody_bad]
      | some y =>
        rw [e2] at h2
        simp only at h2 ⊢
        rw [h2]
        have h3 := pmaybe_ref (a := bTo) (b := noB) (t := h ++ bColon ++ y) (x := tmAt r 6)
        cases e3 : maybeR bTo (tmAt r 6) noB with
        | none =>
          rw [e3] at h3
          simp only at h3 ⊢
          rw [h3, pbody_bad]
        | some z =>
          rw [e3] at h3
          simp only at h3 ⊢
          rw [h3, pbody_ref]
end Go.Den
namespace Go.Den
open Go.Proofs
section
variable {n : Nat} {s0 : ByteArray} {b1 : Bool} {r2 : Rows}
end
end Go.Den
namespace Go.Den
open Go.Proofs
section
variable {n : Nat} {s0 : ByteArray} {b1 : Bool} {j2 : Int} {s3 s4 : ByteArray} {b5 : Bool} {r6 : Rows} {s7 : ByteArray} {b8 : Bool} {j9 : Int} {s10 : ByteArray} {b11 : Bool} {r12 : Rows}
end
section
variable {n : Nat} {b0 : Bool} {r1 : Rows} (hn : 10000 < n) (hr : ∀ r ∈ r1, RuleOk n r) (hl : r1.length ≤ 16)
include hn hr hl
end
end Go.Den
namespace Go.Den
def sumTo (most : Int) (f : Row → Int) : Rows → Int → Int
  | [], n => n
  | r :: l, n => bif decide (n ≤ most) then sumTo most f l (n + f r) else n
theorem sumTo_ge {most : Int} {f : Row → Int} : ∀ (l : Rows) (n : Int), (∀ r ∈ l, 0 ≤ f r) → n ≤ sumTo most f l n
  | [], n, _ => Int.le_refl _
  | r :: l, n, h => by
    unfold sumTo
    have h0 := h r List.mem_cons_self
    have := sumTo_ge (most := most) l (n + f r) (fun q hq => h q (List.mem_cons_of_mem _ hq))
    cases decide (n ≤ most) with
    | true => simp only [cond_true]; omega
    | false => simp only [cond_false]; omega
theorem sumTo_all {most : Int} {f : Row → Int} : ∀ (l : Rows) (n : Int), (∀ r ∈ l, 1 ≤ f r) → sumTo most f l n ≤ most → n + l.length ≤ sumTo most f l n ∧ ∀ r ∈ l, n + f r ≤ sumTo most f l n
  | [], n, _, _ => ⟨by simp [sumTo], fun r hr => by cases hr⟩
  | r :: l, n, h, hm => by
    unfold sumTo at hm ⊢
    have h1 := h r List.mem_cons_self
    have hl : ∀ q ∈ l, 1 ≤ f q := fun q hq => h q (List.mem_cons_of_mem _ hq)
    by_cases hn : n ≤ most
    · simp only [hn, decide_true, cond_true] at hm ⊢
      obtain ⟨a, b⟩ := sumTo_all l (n + f r) hl hm
      have g := sumTo_ge (most := most) (f := f) l (n + f r) (fun q hq => by have := hl q hq; omega)
      refine ⟨by simp only [List.length_cons]; omega, fun q hq => ?_⟩
      rcases List.mem_cons.1 hq with rfl | hq
      · exact g
      · have := b q hq; omega
    · rw [decide_eq_false hn] at hm
      exact absurd hm hn
theorem sumTo_le {most : Int} {f : Row → Int} {b : Int} (hb : 0 ≤ b) : ∀ (l : Rows) (n : Int), (∀ r ∈ l, f r ≤ b) → n ≤ most + b → sumTo most f l n ≤ most + b
  | [], n, _, hn => hn
  | r :: l, n, h, hn => by
    unfold sumTo
    have h0 := h r List.mem_cons_self
    by_cases hm : n ≤ most
    · simp only [hm, decide_true, cond_true]
      exact sumTo_le hb l (n + f r) (fun q hq => h q (List.mem_cons_of_mem _ hq)) (by omega)
    · simp only [hm, decide_false, cond_false]; exact hn
def w5l (r : Row) : Int := 1 + ((Row.R r 5).length : Int) + Int.tdiv ((Row.S r 4).size : Int) 16
def w5r (most : Int) (r : Row) (n : Int) : Int := sumTo most w5l (Row.R r 10) (n + w5l r)
def weight5 (most : Int) : Rows → Int → Int
  | [], n => n
  | r :: l, n => bif decide (n ≤ most) then weight5 most l (w5r most r n) else n
@[reducible] def kT : List Kd := [.s, .b, .i .i64, .s]
@[reducible] def kC : List Kd := [.b, .i .i64, .s]
@[reducible] def kL : List Kd := [.s, .b, .i .i64, .s, .s, .sl kT, .s, .b, .i .i64, .s]
@[reducible] def kR : List Kd := [.s, .b, .i .i64, .s, .s, .sl kT, .s, .b, .i .i64, .s, .sl kL]
@[reducible] def kF : List Kd := [.s, .s, .s, .sl kC]
theorem tdiv16 {n : Nat} (h : n ≤ 3 * reachBytes) : 0 ≤ Int.tdiv (n : Int) 16 ∧ Int.tdiv (n : Int) 16 ≤ 3 * reachBytes := by
  have e : Int.tdiv (n : Int) 16 = ((n / 16 : Nat) : Int) := rfl
  rw [e]
  have : n / 16 ≤ n := Nat.div_le_self _ _
  omega
theorem w5l_bound {r : Row} (hl : (Row.R r 5).length ≤ reachBytes) (hs : (Row.S r 4).size ≤ reachBytes) : 1 ≤ w5l r ∧ w5l r ≤ 1000000000000000 ∧ ((Row.R r 5).length : Int) < w5l r := by
  unfold w5l
  have := tdiv16 (n := (Row.S r 4).size) (by omega)
  unfold reachBytes at *
  omega
theorem fineL {r : Row} (h : Row.ofKds kL r = true ∧ RowFine r) : (Row.R r 5).length ≤ reachBytes ∧ (Row.S r 4).size ≤ reachBytes := ⟨(fine_sl (j := 5) h.1 h.2 rfl).1, fine_S h.2⟩
theorem fineR {r : Row} (h : Row.ofKds kR r = true ∧ RowFine r) : (Row.R r 5).length ≤ reachBytes ∧ (Row.S r 4).size ≤ reachBytes ∧ (Row.R r 10).length ≤ reachBytes ∧ RowsFine kL (Row.R r 10) := ⟨(fine_sl (j := 5) h.1 h.2 rfl).1, fine_S h.2, (fine_sl (j := 10) h.1 h.2 rfl).1, (fine_sl (j := 10) h.1 h.2 rfl).2.2.1⟩
end Go.Den
namespace Go.Den
open Go.Proofs
theorem TmOk.args {n : Nat} : ∀ {a b : Rows}, tms a = tms b → (∀ r ∈ a, TmOk n (tmAt r 0)) → ∀ r ∈ b, TmOk n (tmAt r 0) := by
  intro a b h ha r hr
  have : tmAt r 0 ∈ tms b := List.mem_map.2 ⟨r, hr, rfl⟩
  rw [← h] at this
  obtain ⟨s, hs, e⟩ := List.mem_map.1 this
  have := ha s hs
  rwa [e] at this
theorem LitOk.data {n : Nat} {a b : Row} (h : litD a = litD b) (ha : LitOk n a) : LitOk n b := by
  unfold litD at h
  simp only [Prod.mk.injEq] at h
  have hl : (Row.R a 5).length = (Row.R b 5).length := by rw [← tms_len, ← tms_len (Row.R b 5), h.2.2.1]
  exact ⟨h.1 ▸ ha.by_, h.2.1 ▸ ha.pred, hl ▸ ha.len, TmOk.args h.2.2.1 ha.args, h.2.2.2 ▸ ha.at_⟩
theorem RuleOk.data {n : Nat} {a b : Row} (h : ruleD a = ruleD b) (ha : RuleOk n a) : RuleOk n b := by
  unfold ruleD at h
  simp only [Prod.mk.injEq] at h
  have hl : (Row.R a 5).length = (Row.R b 5).length := by rw [← tms_len, ← tms_len (Row.R b 5), h.2.2.1]
  have hl2 : (Row.R a 10).length = (Row.R b 10).length := by have := congrArg List.length h.2.2.2.2; simpa using this
  refine ⟨h.1 ▸ ha.home, h.2.1 ▸ ha.pred, hl ▸ ha.len, TmOk.args h.2.2.1 ha.args, h.2.2.2.1 ▸ ha.to_, hl2 ▸ ha.blen, fun l hl => ?_⟩
  have : litD l ∈ (Row.R b 10).map litD := List.mem_map.2 ⟨l, hl, rfl⟩
  rw [← h.2.2.2.2] at this
  obtain ⟨s, hs, e⟩ := List.mem_map.1 this
  exact LitOk.data e (ha.body s hs)
theorem RulesOk.data {n : Nat} {a b : Rows} (h : a.map ruleD = b.map ruleD) (ha : ∀ r ∈ a, RuleOk n r) : ∀ r ∈ b, RuleOk n r := by
  intro l hl
  have : ruleD l ∈ b.map ruleD := List.mem_map.2 ⟨l, hl, rfl⟩
  rw [← h] at this
  obtain ⟨s, hs, e⟩ := List.mem_map.1 this
  exact RuleOk.data e (ha s hs)
structure CopyOk (n : Nat) (r : Row) : Prop where
  a : (Row.R r 5).length ≤ 1000
  b : (Row.R r 10).length ≤ 1000
  ba : ∀ l ∈ Row.R r 10, (Row.R l 5).length ≤ 1000
  bl : ∀ l ∈ Row.R r 10, 5 < l.length
end Go.Den
namespace Go.Den
open Go.Proofs
theorem wsum {z a b : Int} (h0 : 0 ≤ z) (h1 : z ≤ 3000000000000000) (h2 : 0 ≤ a) (h3 : a ≤ 1000000000000000) (h4 : 0 ≤ b) (h5 : b ≤ 1000000000000000) :
    IntKind.wrap IntKind.i64 (z + IntKind.wrap IntKind.i64 (IntKind.wrap IntKind.i64 (1 + a) + IntKind.wrap IntKind.i64 b)) = z + (1 + a + b) := by
  rw [wrap_small (z := 1 + a) (by omega) (by omega), wrap_small (z := b) (by omega) (by omega), wrap_small (z := 1 + a + b) (by omega) (by omega), wrap_small (z := z + (1 + a + b)) (by omega) (by omega)]
section
variable {n : Nat} {b0 : Bool} {most : Int} (hm0 : 0 ≤ most) (hm : most ≤ 1000000)
include hm0 hm
theorem weight5_inner {r1 : Rows} (hr : RowsFine kR r1) (hlen : r1.length ≤ reachBytes) {j i0 : Nat} (hj : j < r1.length) : ∀ k q : Nat, q + k = (Row.R r1[j] 10).length → ∀ i z, k < i → 0 ≤ z → z ≤ most + 2000000000000000 →
    ref05_Weight_l7 n b0 r1 most i0 i z (q : Int) (j : Int) = ref05_Weight_l3 n b0 r1 most i0 (sumTo most w5l ((Row.R r1[j] 10).drop q) z) ((j + 1 : Nat) : Int) := by
  have hfr := fineR (rowsFine_get hr hj)
  have g1 : (0 : Int) ≤ (j : Int) := by omega
  have g2 : (j : Int) < (r1.length : Int) := by omega
  have wj : IntKind.wrap IntKind.i64 ((j : Int) + 1) = ((j + 1 : Nat) : Int) := wrap_succ (by unfold reachBytes at *; unfold big; omega)
  intro k
  induction k with
  | zero =>
    intro q hq i z hi h0 hz
    obtain ⟨i, rfl⟩ : ∃ m, i = m + 1 := ⟨i - 1, by omega⟩
    rw [ref05_Weight_s7]
    simp only [g1, g2, if_true, Int.toNat_natCast, getD_get hj]
    have h1 : ¬ (q : Int) < ((Row.R r1[j] 10).length : Int) := by omega
    rw [List.drop_eq_nil_of_le (by omega)]
    simp only [h1, decide_false, cond_false, sumTo, wj]
  | succ k ih =>
    intro q hq i z hi h0 hz
    obtain ⟨i, rfl⟩ : ∃ m, i = m + 1 := ⟨i - 1, by omega⟩
    have hlt : q < (Row.R r1[j] 10).length := by omega
    rw [ref05_Weight_s7, List.drop_eq_getElem_cons hlt]
    have h1 : (q : Int) < ((Row.R r1[j] 10).length : Int) := by omega
    have h2 : (0 : Int) ≤ (q : Int) := by omega
    simp only [g1, g2, if_true, Int.toNat_natCast, getD_get hj, h1, h2, decide_true, cond_true, getD_get hlt, sumTo, wj]
    by_cases hzm : z ≤ most
    · have hfl := fineL (rowsFine_get hfr.2.2.2 hlt)
      have hb := w5l_bound hfl.1 hfl.2
      have ht := tdiv16 (n := (Row.S (Row.R r1[j] 10)[q] 4).size) (by omega)
      have wq : IntKind.wrap IntKind.i64 ((q : Int) + 1) = ((q + 1 : Nat) : Int) := wrap_succ (by unfold reachBytes at *; unfold big; omega)
      have hw : IntKind.wrap IntKind.i64 (z + IntKind.wrap IntKind.i64 (IntKind.wrap IntKind.i64 (1 + ((Row.R (Row.R r1[j] 10)[q] 5).length : Int)) + IntKind.wrap IntKind.i64 (Int.tdiv ((Row.S (Row.R r1[j] 10)[q] 4).size : Int) 16))) = z + w5l (Row.R r1[j] 10)[q] := by
        unfold w5l at hb ⊢
        unfold reachBytes at *
        exact wsum (by omega) (by omega) (by omega) (by omega) (by omega) (by omega)
      simp only [hzm, decide_true, cond_true, hw, wq]
      exact ih (q + 1) (by omega) i _ (by omega) (by omega) (by omega)
    · simp only [hzm, decide_false, cond_false]
theorem weight5_outer {r1 : Rows} (hr : RowsFine kR r1) (hlen : r1.length ≤ reachBytes) (hn : ∀ r ∈ r1, (Row.R r 10).length < n) : ∀ k q : Nat, q + k = r1.length → ∀ i z, k < i → 0 ≤ z → z ≤ most + 2000000000000000 →
    ref05_Weight_l3 n b0 r1 most i z (q : Int) = some (weight5 most (r1.drop q) z, ()) := by
  intro k
  induction k with
  | zero =>
    intro q hq i z hi h0 hz
    obtain ⟨i, rfl⟩ : ∃ m, i = m + 1 := ⟨i - 1, by omega⟩
    rw [ref05_Weight_s3, List.drop_eq_nil_of_le (by omega)]
    have h1 : ¬ (q : Int) < (r1.length : Int) := by omega
    simp only [h1, decide_false, cond_false, weight5]
  | succ k ih =>
    intro q hq i z hi h0 hz
    obtain ⟨i, rfl⟩ : ∃ m, i = m + 1 := ⟨i - 1, by omega⟩
    have hlt : q < r1.length := by omega
    have hfr := fineR (rowsFine_get hr hlt)
    rw [ref05_Weight_s3, List.drop_eq_getElem_cons hlt]
    have h1 : (q : Int) < (r1.length : Int) := by omega
    have h2 : (0 : Int) ≤ (q : Int) := by omega
    simp only [h1, h2, if_true, decide_true, cond_true, Int.toNat_natCast, getD_get hlt, weight5]
    by_cases hzm : z ≤ most
    · have hb := w5l_bound hfr.1 hfr.2.1
      have ht := tdiv16 (n := (Row.S r1[q] 4).size) (by omega)
      have hw : IntKind.wrap IntKind.i64 (z + IntKind.wrap IntKind.i64 (IntKind.wrap IntKind.i64 (1 + ((Row.R r1[q] 5).length : Int)) + IntKind.wrap IntKind.i64 (Int.tdiv ((Row.S r1[q] 4).size : Int) 16))) = z + w5l r1[q] := by
        unfold w5l at hb ⊢
        unfold reachBytes at *
        exact wsum (by omega) (by omega) (by omega) (by omega) (by omega) (by omega)
      simp only [hzm, decide_true, cond_true, hw]
      have hi := weight5_inner hm0 hm (n := n) (b0 := b0) hr hlen (i0 := i) hlt (Row.R r1[q] 10).length 0 (by omega) n (z + w5l r1[q]) (hn _ (List.getElem_mem hlt)) (by omega) (by omega)
      rw [show ((0 : Nat) : Int) = 0 from rfl] at hi
      rw [hi, List.drop_zero]
      have hfl : ∀ r ∈ Row.R r1[q] 10, 1 ≤ w5l r ∧ w5l r ≤ 1000000000000000 := fun r hr' => by
        have hfl := fineL (rowsFine_mem hfr.2.2.2 hr')
        have := w5l_bound hfl.1 hfl.2
        omega
      have a1 := sumTo_ge (most := most) (f := w5l) (Row.R r1[q] 10) (z + w5l r1[q]) (fun r hr' => by have := hfl r hr'; omega)
      have a2 := sumTo_le (most := most) (f := w5l) (b := 1000000000000000) (by omega) (Row.R r1[q] 10) (z + w5l r1[q]) (fun r hr' => by have := hfl r hr'; omega) (by omega)
      exact ih (q + 1) (by omega) i _ (by omega) (by omega) (by omega)
    · simp only [hzm, decide_false, cond_false]
theorem weight5_q {r1 : Rows} (hr : RowsFine kR r1) (hlen : r1.length ≤ reachBytes) (hn : ∀ r ∈ r1, (Row.R r 10).length < n) (hn' : r1.length < n) : ref05_Weight_v n b0 r1 most = some (weight5 most r1 0, ()) := by
  rw [ref05_Weight_e]
  exact weight5_outer hm0 hm hr hlen hn r1.length 0 (by omega) n 0 hn' (by omega) (by omega)
end
end Go.Den
namespace Go.Den
open Go.Proofs
theorem weight5_ge {most : Int} : ∀ (l : Rows) (z : Int), RowsFine kR l → z ≤ weight5 most l z
  | [], z, _ => Int.le_refl _
  | r :: l, z, h => by
    unfold weight5
    have hfr := fineR ⟨h.1, h.2.1⟩
    have hb := w5l_bound hfr.1 hfr.2.1
    have hfl : ∀ q ∈ Row.R r 10, 0 ≤ w5l q := fun q hq => by
      have hfl := fineL (rowsFine_mem hfr.2.2.2 hq)
      have := w5l_bound hfl.1 hfl.2
      omega
    have a1 := sumTo_ge (most := most) (f := w5l) (Row.R r 10) (z + w5l r) hfl
    have := weight5_ge (most := most) l (w5r most r z) h.2.2
    unfold w5r at *
    cases decide (z ≤ most) with
    | true => simp only [cond_true]; omega
    | false => simp only [cond_false]; omega
theorem weight5_all2 {most : Int} : ∀ (l : Rows) (z : Int), RowsFine kR l → 0 ≤ z → weight5 most l z ≤ most → z + l.length ≤ most ∧ ∀ r ∈ l, w5l r ≤ most ∧ ((Row.R r 10).length : Int) ≤ most ∧ ∀ q ∈ Row.R r 10, w5l q ≤ most
  | [], z, _, _, hm => ⟨by simpa [weight5] using hm, fun r hr => by cases hr⟩
  | r :: l, z, h, hz, hm => by
    unfold weight5 at hm
    have hfr := fineR ⟨h.1, h.2.1⟩
    have hb := w5l_bound hfr.1 hfr.2.1
    by_cases hzm : z ≤ most
    · simp only [hzm, decide_true, cond_true] at hm
      have hfl : ∀ q ∈ Row.R r 10, 1 ≤ w5l q := fun q hq => by
        have hfl := fineL (rowsFine_mem hfr.2.2.2 hq)
        have := w5l_bound hfl.1 hfl.2
        omega
      have g := weight5_ge (most := most) l (w5r most r z) h.2.2
      have a1 := sumTo_ge (most := most) (f := w5l) (Row.R r 10) (z + w5l r) (fun q hq => by have := hfl q hq; omega)
      obtain ⟨b1, b2⟩ := sumTo_all (most := most) (f := w5l) (Row.R r 10) (z + w5l r) hfl (show w5r most r z ≤ most from Int.le_trans g hm)
      obtain ⟨c1, c2⟩ := weight5_all2 l (w5r most r z) h.2.2 (by unfold w5r; omega) hm
      unfold w5r at c1 g
      refine ⟨by simp only [List.length_cons]; omega, fun q hq => ?_⟩
      rcases List.mem_cons.1 hq with rfl | hq
      · refine ⟨by omega, by omega, fun p hp => ?_⟩
        have := b2 p hp
        omega
      · exact c2 q hq
    · rw [decide_eq_false hzm] at hm
      exact absurd hm hzm
theorem w5l_le {r : Row} (hl : (Row.R r 5).length ≤ reachBytes) (hs : (Row.S r 4).size ≤ reachBytes) (h : w5l r ≤ 300) : (Row.R r 5).length ≤ 300 ∧ (Row.S r 4).size ≤ 5000 := by
  have hb := w5l_bound hl hs
  unfold w5l at h hb
  have e : Int.tdiv ((Row.S r 4).size : Int) 16 = (((Row.S r 4).size / 16 : Nat) : Int) := rfl
  have ht := tdiv16 (n := (Row.S r 4).size) (by omega)
  rw [e] at h ht
  have : (Row.S r 4).size / 16 ≤ 300 := by omega
  omega
def bigN : Nat := reachBytes + 20000
theorem bigN_lt {k : Nat} (h : k ≤ reachBytes) : k < bigN := by unfold bigN; omega
theorem bigN_big : 10000 < bigN := by unfold bigN; omega
theorem tmOk {ks : List Kd} {r : Row} {o : Nat} (h : Row.ofKds ks r = true ∧ RowFine r) (hk : ks[o + 2]? = some (.i .i64)) : TmOk bigN (tmAt r o) := by
  have h2 := lit_i64 (fine_I (j := o + 2) h.1 h.2 hk)
  have h3 : (Row.S r (o + 3)).size ≤ reachBytes := fine_S h.2
  exact ⟨by show _ ≤ Row.I r (o + 2); omega, by show Row.I r (o + 2) ≤ _; omega, h3, bigN_lt h3⟩
theorem argsOk {rows : Rows} (h : RowsFine kT rows) : ∀ r ∈ rows, TmOk bigN (tmAt r 0) := fun r hr => tmOk (rowsFine_mem h hr) rfl
theorem litOk {l : Row} (h : Row.ofKds kL l = true ∧ RowFine l) (hw : w5l l ≤ 300) : LitOk bigN l := by
  have hs := fine_sl (j := 5) h.1 h.2 rfl
  have := w5l_le hs.1 (fine_S h.2) hw
  exact ⟨tmOk h rfl, this.2, by omega, argsOk hs.2.2.1, tmOk h rfl⟩
theorem ruleOk {r : Row} (h : Row.ofKds kR r = true ∧ RowFine r) (hw : w5l r ≤ 300) (hb : ((Row.R r 10).length : Int) ≤ 300) (hl : ∀ q ∈ Row.R r 10, w5l q ≤ 300) : RuleOk bigN r := by
  have hs := fine_sl (j := 5) h.1 h.2 rfl
  have hs10 := fine_sl (j := 10) h.1 h.2 rfl
  have := w5l_le hs.1 (fine_S h.2) hw
  exact ⟨tmOk h rfl, this.2, by omega, argsOk hs.2.2.1, tmOk h rfl, by omega, fun l hl' => litOk (rowsFine_mem hs10.2.2.1 hl') (hl l hl')⟩
structure RulesOk (l : Rows) : Prop where
  len : l.length ≤ 300
  ok : ∀ r ∈ l, RuleOk bigN r
  copy : ∀ r ∈ l, CopyOk bigN r
  small : ∀ r ∈ l, Small2 bigN r
theorem rulesOk {l : Rows} (h : RowsFine kR l) (hw : weight5 300 l 0 ≤ 300) : RulesOk l := by
  obtain ⟨h1, h2⟩ := weight5_all2 l 0 h (Int.le_refl _) hw
  have hk : ∀ r ∈ l, ∀ q ∈ Row.R r 10, Row.ofKds kL q = true ∧ RowFine q := fun r hr q hq => rowsFine_mem (fine_sl (j := 10) (rowsFine_mem h hr).1 (rowsFine_mem h hr).2 rfl).2.2.1 hq
  have hB : big = 4611686018427387904 ∨ 1000000 ≤ big := .inr (by unfold big; omega)
  have hb : 1000000 ≤ big := by unfold big; omega
  refine ⟨by omega, fun r hr => ruleOk (rowsFine_mem h hr) (h2 r hr).1 (h2 r hr).2.1 (h2 r hr).2.2, fun r hr => ?_, fun r hr => ?_⟩
  · have hR := ruleOk (rowsFine_mem h hr) (h2 r hr).1 (h2 r hr).2.1 (h2 r hr).2.2
    exact ⟨hR.len, hR.blen, fun q hq => (hR.body q hq).len, fun q hq => by have := Row.ofKds_length (hk r hr q hq).1; simp at this; omega⟩
  · have hR := ruleOk (rowsFine_mem h hr) (h2 r hr).1 (h2 r hr).2.1 (h2 r hr).2.2
    have hN := bigN_big
    have a1 := hR.len
    have a2 := hR.blen
    exact ⟨⟨by omega, by omega⟩, ⟨⟨by omega, by omega⟩, fun q hq => by have := (hR.body q hq).len; exact ⟨by omega, by omega⟩⟩⟩
end Go.Den
