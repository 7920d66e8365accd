import Derived.Test.YtbdjanjcphgjdaaGreatDoorZ10
set_option linter.unusedVariables false
set_option linter.unusedSimpArgs false
set_option linter.unusedSectionVars false
namespace Go.Den
open Go.Proofs Go.Lib
theorem nDigits_le : ∀ k u : Nat, 1 ≤ k → u < 10 ^ k → nDigits u ≤ k
 |0, u, h, _ => by omega
 |k + 1, u, _, h => by
  by_cases hu : u < 10
  ·rw [nDigits_small hu]; omega
  ·rw [nDigits_big hu]
   have hk : 1 ≤ k := by
    cases k with
    |zero => simp at h; omega
    |succ k => omega
   rw [Nat.pow_succ] at h
   have := nDigits_le k (u / 10) hk (by omega)
   omega
@[reducible] def bOf (l : List UInt8) : ByteArray := ⟨l.toArray⟩
theorem bOf_app (a b : List UInt8) : bOf a ++ bOf b = bOf (a ++ b) := by
 have h : (bOf a ++ bOf b).data = (bOf (a ++ b)).data := by
  rw [ByteArray.data_append]
  show a.toArray ++ b.toArray = (a ++ b).toArray
  simp
 cases h1 : bOf a ++ bOf b
 rw [h1] at h
 cases h
 rfl
theorem bOf_size (a : List UInt8) : (bOf a).size = a.length := by
 show a.toArray.size = a.length
 simp
theorem digit_byte : ∀ d : Nat, d < 10 → bytesOf [[DV.val (Value.int IntKind.u8 (IntKind.wrap IntKind.u8 (IntKind.wrap IntKind.i64 (48 + (d : Int)))))]] = bOf [UInt8.ofNat (48 + d)] := by
 intro d hd
 have : d = 0 ∨ d = 1 ∨ d = 2 ∨ d = 3 ∨ d = 4 ∨ d = 5 ∨ d = 6 ∨ d = 7 ∨ d = 8 ∨ d = 9 := by omega
 rcases this with rfl | rfl | rfl | rfl | rfl | rfl | rfl | rfl | rfl | rfl <;> rfl
theorem bOf_ne {a : UInt8} {l : List UInt8} : (bOf (a :: l) == noB) = false := by
 refine beq_eq_false_iff_ne.2 fun h => ?_
 have := congrArg ByteArray.size h
 rw [bOf_size] at this
 simp [ByteArray.size] at this
section
variable {n : Nat} {j0 : Int}
def endD (j0 : Int) (l : List UInt8) : List UInt8 := if j0 < 0 then 45 :: l else l
theorem digits_end {f : Nat} {a : UInt8} {l : List UInt8} (hl : (a :: l).length ≤ 100) : z22_l3 n j0 (f + 1) (bOf (a :: l)) 0 = some (bOf (endD j0 (a :: l)), ()) := by
 rw [z22_s3]
 have h0 : ((0 : Int) != 0) = false := rfl
 have hs : 1 + (bOf (a :: l)).size < 4611686018427387904 := by rw [bOf_size]; omega
 have hz : (bOf (a :: l) == ByteArray.mk #[]) = false := bOf_ne
 rw [h0, hz]
 simp only [cond_false]
 unfold endD
 by_cases hj : j0 < 0
 ·rw [if_pos hj]
  simp only [hj, decide_true, cond_true, hs, if_true]
  have := bOf_app [45] (a :: l)
  exact congrArg (fun x => some (x, ())) this
 ·rw [if_neg hj]
  simp only [hj, decide_false, cond_false]
theorem digits_step {f : Nat} {l : List UInt8} {j2 : Int} (hl : l.length ≤ 90) (hlo : -9223372036854775808 ≤ j2) (hhi : j2 ≤ 9223372036854775807) (h : j2 ≠ 0 ∨ l = []) :
  z22_l3 n j0 (f + 1) (bOf l) j2 = z22_l3 n j0 f (bOf (UInt8.ofNat (48 + j2.natAbs % 10) :: l)) (Int.tdiv j2 10) := by
 have hmod : Int.tmod j2 10 = if 0 ≤ j2 then ((j2.natAbs % 10 : Nat) : Int) else -((j2.natAbs % 10 : Nat) : Int) := by
  rcases Int.natAbs_eq j2 with h1 | h1
  ·by_cases h0 : 0 ≤ j2
   ·rw [if_pos h0]
    conv => lhs; rw [h1]
    rfl
   ·omega
  ·by_cases h0 : 0 ≤ j2
   ·have : j2 = 0 := by omega
    subst this; rfl
   ·rw [if_neg h0]
    conv => lhs; rw [h1]
    rw [Int.neg_tmod]; rfl
 have hd10 : j2.natAbs % 10 < 10 := Nat.mod_lt _ (by decide)
 have hdiv : IntKind.wrap IntKind.i64 (Int.tdiv j2 10) = Int.tdiv j2 10 := by
  refine wrap_i64 ?_ ?_
  ·rcases Int.natAbs_eq j2 with h1 | h1
   ·rw [h1]
    have : Int.tdiv ((j2.natAbs : Nat) : Int) 10 = ((j2.natAbs / 10 : Nat) : Int) := rfl
    rw [this]; omega
   ·rw [h1, Int.neg_tdiv]
    have : Int.tdiv ((j2.natAbs : Nat) : Int) 10 = ((j2.natAbs / 10 : Nat) : Int) := rfl
    rw [this]; omega
  ·rcases Int.natAbs_eq j2 with h1 | h1
   ·rw [h1]
    have : Int.tdiv ((j2.natAbs : Nat) : Int) 10 = ((j2.natAbs / 10 : Nat) : Int) := rfl
    rw [this]; omega
   ·rw [h1, Int.neg_tdiv]
    have : Int.tdiv ((j2.natAbs : Nat) : Int) 10 = ((j2.natAbs / 10 : Nat) : Int) := rfl
    rw [this]; omega
 have hsz : (bOf [UInt8.ofNat (48 + j2.natAbs % 10)]).size + (bOf l).size < 4611686018427387904 := by rw [bOf_size, bOf_size]; simp only [List.length_cons, List.length_nil]; omega
 have happ : bOf [UInt8.ofNat (48 + j2.natAbs % 10)] ++ bOf l = bOf (UInt8.ofNat (48 + j2.natAbs % 10) :: l) := bOf_app _ _
 have body : (bif decide (Int.tmod j2 10 < 0) then
   if ByteArray.size (bytesOf [[DV.val (Value.int IntKind.u8 (IntKind.wrap IntKind.u8 (IntKind.wrap IntKind.i64 (48 + IntKind.wrap IntKind.i64 (0 - Int.tmod j2 10)))))]]) + ByteArray.size (bOf l) < 4611686018427387904 then
    z22_l3 n j0 f (bytesOf [[DV.val (Value.int IntKind.u8 (IntKind.wrap IntKind.u8 (IntKind.wrap IntKind.i64 (48 + IntKind.wrap IntKind.i64 (0 - Int.tmod j2 10)))))]] ++ bOf l) (IntKind.wrap IntKind.i64 (Int.tdiv j2 10))
   else none
  else if ByteArray.size (bytesOf [[DV.val (Value.int IntKind.u8 (IntKind.wrap IntKind.u8 (IntKind.wrap IntKind.i64 (48 + Int.tmod j2 10))))]]) + ByteArray.size (bOf l) < 4611686018427387904 then
   z22_l3 n j0 f (bytesOf [[DV.val (Value.int IntKind.u8 (IntKind.wrap IntKind.u8 (IntKind.wrap IntKind.i64 (48 + Int.tmod j2 10))))]] ++ bOf l) (IntKind.wrap IntKind.i64 (Int.tdiv j2 10))
  else none) = z22_l3 n j0 f (bOf (UInt8.ofNat (48 + j2.natAbs % 10) :: l)) (Int.tdiv j2 10) := by
  by_cases hneg : Int.tmod j2 10 < 0
  ·have h0 : ¬ 0 ≤ j2 := fun h0 => by rw [if_pos h0] at hmod; omega
   rw [if_neg h0] at hmod
   have e1 : IntKind.wrap IntKind.i64 (0 - Int.tmod j2 10) = ((j2.natAbs % 10 : Nat) : Int) := by rw [hmod, show (0 : Int) - -((j2.natAbs % 10 : Nat) : Int) = ((j2.natAbs % 10 : Nat) : Int) by omega]; exact wrap_small (by omega) (by omega)
   simp only [hneg, decide_true, cond_true, e1, digit_byte _ hd10, hsz, if_true, happ, hdiv]
  ·have e1 : Int.tmod j2 10 = ((j2.natAbs % 10 : Nat) : Int) := by
    by_cases h0 : 0 ≤ j2
    ·rw [if_pos h0] at hmod; exact hmod
    ·rw [if_neg h0] at hmod; omega
   have hneg' : ¬ ((j2.natAbs % 10 : Nat) : Int) < 0 := by omega
   rw [e1]
   simp only [hneg', decide_false, cond_false, digit_byte _ hd10, hsz, if_true, happ, hdiv]
 rw [z22_s3]
 by_cases hz : j2 = 0
 ·have hl0 := h.resolve_left (fun h => h hz)
  subst hl0
  have h0 : (j2 != 0) = false := by rw [hz]; rfl
  have h1 : (bOf [] == ByteArray.mk #[]) = true := by simp [bOf]
  rw [h0, h1]
  simp only [cond_false, cond_true]
  exact body
 ·have h0 : (j2 != 0) = true := by simpa using hz
  rw [h0]
  simp only [cond_true]
  exact body
theorem tdiv_abs (j2 : Int) : (Int.tdiv j2 10).natAbs = j2.natAbs / 10 := by
 rw [Int.natAbs_tdiv]; rfl
theorem digits_loop : ∀ (k : Nat) (j2 : Int), 1 ≤ k → j2.natAbs < 10 ^ k → -9223372036854775808 ≤ j2 → j2 ≤ 9223372036854775807 → ∀ f l, k < f → l.length + k ≤ 90 → (j2 ≠ 0 ∨ l = []) →
  z22_l3 n j0 f (bOf l) j2 = some (bOf (endD j0 (decDigits j2.natAbs ++ l)), ())
 |0, j2, h, _, _, _, _, _, _, _, _ => by omega
 |k + 1, j2, _, hu, hlo, hhi, f, l, hf, hl, h => by
  obtain ⟨f, rfl⟩ : ∃ z, f = z + 1 := ⟨f - 1, by omega⟩
  rw [digits_step (by omega) hlo hhi h]
  by_cases h10 : j2.natAbs < 10
  ·have hz : Int.tdiv j2 10 = 0 := by
    have := tdiv_abs j2
    rw [Nat.div_eq_of_lt h10] at this
    exact Int.natAbs_eq_zero.1 this
   obtain ⟨f, rfl⟩ : ∃ z, f = z + 1 := ⟨f - 1, by omega⟩
   rw [hz, digits_end (by simp only [List.length_cons]; omega), decDigits_one h10, Nat.mod_eq_of_lt h10]
   rfl
  ·have hk : 1 ≤ k := by
    cases k with
    |zero => simp at hu; omega
    |succ k => omega
   have habs := tdiv_abs j2
   rw [Nat.pow_succ] at hu
   have hne : Int.tdiv j2 10 ≠ 0 := fun h0 => by rw [h0] at habs; simp at habs; omega
   have hb : (Int.tdiv j2 10).natAbs ≤ j2.natAbs := by rw [habs]; exact Nat.div_le_self _ _
   rw [digits_loop k (Int.tdiv j2 10) hk (by rw [habs]; omega) (by omega) (by omega) f _ (by omega) (by simp only [List.length_cons]; omega) (.inl hne), habs]
   congr 3
   conv => rhs; rw [decDigits, dif_neg h10]
   rw [List.append_assoc]; rfl
theorem digits_q (hlo : -9223372036854775808 ≤ j0) (hhi : j0 ≤ 9223372036854775807) (hn : 100 < n) : z22_v n j0 = some (⟨(itoa j0).toArray⟩, ()) := by
 rw [z22_e]
 have hp : j0.natAbs < 10 ^ 20 := by
  have : (10 : Nat) ^ 20 = 100000000000000000000 := by decide
  omega
 have h := digits_loop (n := n) (j0 := j0) 20 j0 (by omega) hp hlo hhi n [] (by omega) (by simp) (.inr rfl)
 rw [List.append_nil] at h
 have e : itoa j0 = endD j0 (decDigits j0.natAbs) := by
  unfold itoa endD
  by_cases hj : j0 < 0
  ·rw [if_pos hj, if_pos hj]
  ·rw [if_neg hj, if_neg hj, show j0.toNat = j0.natAbs by omega]
 rw [e]
 exact h
def plainS (s : ByteArray) : Bool := decide (over isPlain s 0 = s.size)
theorem plain_loop {s : ByteArray} (hs : s.size ≤ 140737488351232) : ∀ k q : Nat, q + k = s.size → ∀ f, k < f → z64_l2 n s f (q : Int) = some (decide (over isPlain s q = s.size) && (decide (1 ≤ s.size) && decide (s.size ≤ 32)), ()) := by
 intro k
 induction k with
 |zero =>
  intro q hq f hf
  obtain ⟨f, rfl⟩ : ∃ z, f = z + 1 := ⟨f - 1, by omega⟩
  rw [z64_s2, over_end (by omega)]
  have h1 : ¬ ((q : Int) < (s.size : Int)) := by omega
  have h2 : q = s.size := by omega
  simp only [h1, decide_false, cond_false, h2, decide_true, Bool.true_and]
  by_cases h3 : (s.size : Int) ≥ 1
  ·have h4 : 1 ≤ s.size := by omega
   have h5 : decide ((s.size : Int) ≤ 32) = decide (s.size ≤ 32) := decide_eq_decide.2 (by omega)
   simp [h3, h4, h5]
  ·have h4 : ¬ 1 ≤ s.size := by omega
   simp [h3, h4]
 |succ k ih =>
  intro q hq f hf
  obtain ⟨f, rfl⟩ : ∃ z, f = z + 1 := ⟨f - 1, by omega⟩
  have h1 : (q : Int) < (s.size : Int) := by omega
  have h0 : (0 : Int) ≤ (q : Int) := by omega
  have hne : ¬ q = s.size := by omega
  rw [z64_s2, wrap_succ (show q < big by unfold big; omega)]
  simp only [h1, h0, decide_true, cond_true, if_true]
  by_cases c1 : bt s (q : Int) < 32
  ·have hp : isPlain (bt s (q : Int)) = false := by
    unfold isPlain
    have h32 : ¬ bt s (q : Int) ≥ 32 := by omega
    simp [h32]
   rw [over_stop hp]
   simp [c1, hne]
  ·by_cases c2 : bt s (q : Int) > 126
   ·have hp : isPlain (bt s (q : Int)) = false := by
     unfold isPlain
     have h126 : ¬ bt s (q : Int) ≤ 126 := by omega
     simp [h126]
    rw [over_stop hp]
    simp [c1, c2, hne]
   ·cases c3 : bt s (q : Int) == 34 with
    |true =>
     have hp : isPlain (bt s (q : Int)) = false := by
      unfold isPlain
      have h34 : bt s (q : Int) = 34 := by simpa using c3
      rw [h34]; rfl
     rw [over_stop hp]
     simp [c1, c2, hne]
    |false =>
     cases c4 : bt s (q : Int) == 92 with
     |true =>
      have hp : isPlain (bt s (q : Int)) = false := by
       unfold isPlain
       have h92 : bt s (q : Int) = 92 := by simpa using c4
       rw [h92]; rfl
      rw [over_stop hp]
      simp [c1, c2, hne]
     |false =>
      have hp : isPlain (bt s (q : Int)) = true := by
       unfold isPlain
       have a1 : bt s (q : Int) ≥ 32 := by omega
       have a2 : bt s (q : Int) ≤ 126 := by omega
       have a3 : (bt s (q : Int) != 34) = true := by simp [bne, c3]
       have a4 : (bt s (q : Int) != 92) = true := by simp [bne, c4]
       simp only [a1, a2, a3, a4, decide_true, Bool.true_and]
      rw [over_step (by omega) hp]
      simp only [c1, c2, decide_false, cond_false]
      exact ih (q + 1) (by omega) f (by omega)
theorem plain_q {s : ByteArray} (hs : s.size ≤ 140737488351232) (hsn : s.size < n) : z64_v n s = some (plainS s && (decide (1 ≤ s.size) && decide (s.size ≤ 32)), ()) := by
 rw [z64_e]
 exact plain_loop hs s.size 0 (by omega) n (by omega)
def shownS (s : ByteArray) : (ByteArray × Int × Unit) × Unit :=
 bif namedS isSmall s && !keptS s then ((s, (0, ())), ()) else ((ByteArray.mk #[34] ++ s ++ ByteArray.mk #[34], (0, ())), ())
theorem term_loop {s0 s3 : ByteArray} {b1 : Bool} {j2 : Int} (hs : s3.size ≤ 32) (hn : 10000 < n) : ∀ k q : Nat, q + k = s3.size → ∀ f, k < f → z48_l13 n s0 b1 j2 s3 f (q : Int) =
  some (bif decide (over isPlain s3 q = s3.size) then shownS s3 else ((ByteArray.mk #[], (100, ())), ())) := by
 intro k
 induction k with
 |zero =>
  intro q hq f hf
  obtain ⟨f, rfl⟩ : ∃ z, f = z + 1 := ⟨f - 1, by omega⟩
  rw [z48_s13, over_end (by omega)]
  have h1 : ¬ ((q : Int) < (s3.size : Int)) := by omega
  have h2 : q = s3.size := by omega
  have c1 : 1 + s3.size < 4611686018427387904 := by omega
  have c2 : ByteArray.size (ByteArray.mk #[34] ++ s3) + 1 < 4611686018427387904 := by
   rw [ByteArray.size_append]
   have : (ByteArray.mk #[34]).size = 1 := rfl
   omega
  simp only [h1, decide_false, cond_false, decide_eq_true h2, cond_true, word_q hn, obind_some, shownS, c1, c2, if_true]
  cases namedS isSmall s3 && !keptS s3 <;> rfl
 |succ k ih =>
  intro q hq f hf
  obtain ⟨f, rfl⟩ : ∃ z, f = z + 1 := ⟨f - 1, by omega⟩
  have h1 : (q : Int) < (s3.size : Int) := by omega
  have h0 : (0 : Int) ≤ (q : Int) := by omega
  rw [z48_s13, wrap_succ (show q < big by unfold big; omega)]
  simp only [h1, h0, decide_true, cond_true, if_true, z34_q, obind_some]
  cases hi : isPlain (bt s3 (q : Int)) with
  |false =>
   rw [over_stop hi]
   have : ¬ q = s3.size := by omega
   simp [this]
  |true =>
   rw [over_step (by omega) hi]
   exact ih (q + 1) (by omega) f (by omega)
def termS (s0 : ByteArray) (b1 : Bool) (j2 : Int) (s3 : ByteArray) : (ByteArray × Int × Unit) × Unit :=
 bif !s0 == noB then
  bif b1 == false && (j2 == 0 && s3 == noB) && namedS isGreat s0 then ((s0, (0, ())), ()) else ((noB, (100, ())), ())
 else bif b1 then
  bif s3 == noB then ((⟨(itoa j2).toArray⟩, (0, ())), ()) else ((noB, (100, ())), ())
 else bif j2 == 0 && (plainS s3 && (decide (1 ≤ s3.size) && decide (s3.size ≤ 32))) then shownS s3 else ((noB, (100, ())), ())
theorem z76_q {s0 s3 : ByteArray} {b1 : Bool} {j2 : Int} (hlo : -9223372036854775808 ≤ j2) (hhi : j2 ≤ 9223372036854775807) (hs : s3.size ≤ 140737488351232) (hsn : s3.size < n) (hn : 10000 < n) : z76_v n s0 b1 j2 s3 = some (termS s0 b1 j2 s3) := by
 rw [z76_e]
 unfold termS
 have hi : strconv_Itoa_v n j2 = some (⟨(itoa j2).toArray⟩, ()) := by unfold strconv_Itoa_v; simp [hlo, hhi]
 have c1 : 1 + s3.size < 4611686018427387904 := by omega
 have c2 : ByteArray.size (ByteArray.mk #[34] ++ s3) + 1 < 4611686018427387904 := by
  rw [ByteArray.size_append]
  have : (ByteArray.mk #[34]).size = 1 := rfl
  omega
 simp only [z20_q hn, z77_q hn, plain_q hs hsn, hi, obind_some, c1, c2, if_true]
 cases hz : s0 == noB with
 |false =>
  simp only [Bool.not_false, cond_true]
  cases b1 <;> cases j2 == 0 <;> cases s3 == noB <;> cases namedS isGreat s0 <;> rfl
 |true =>
  simp only [Bool.not_true, cond_false]
  cases b1 with
  |true => cases s3 == noB <;> simp_all
  |false =>
   simp only [cond_false, bne]
   cases j2 == 0 with
   |false => rfl
   |true =>
    cases plainS s3 && (decide (1 ≤ s3.size) && decide (s3.size ≤ 32)) with
    |false => rfl
    |true =>
     simp only [shownS]
     cases namedS isSmall s3 && !keptS s3 <;> rfl
theorem ref_Term_q {s0 s3 : ByteArray} {b1 : Bool} {j2 : Int} (hlo : -9223372036854775808 ≤ j2) (hhi : j2 ≤ 9223372036854775807) (hn : 10000 < n) : z48_v n s0 b1 j2 s3 = some (termS s0 b1 j2 s3) := by
 rw [z48_e]
 unfold termS
 simp only [named_q hn (p := isGreat) (letter_great hn), digits_q hlo hhi (show 100 < n by omega), obind_some]
 cases hz : s0 == noB with
 |false =>
  simp only [Bool.not_false, cond_true]
  cases b1 <;> cases j2 == 0 <;> cases s3 == noB <;> cases namedS isGreat s0 <;> rfl
 |true =>
  simp only [Bool.not_true, cond_false]
  cases b1 with
  |true => cases s3 == noB <;> simp_all
  |false =>
   simp only [cond_false, bne]
   cases j2 == 0 with
   |false => rfl
   |true =>
    by_cases c1 : (s3.size : Int) < 1
    ·have : ¬ 1 ≤ s3.size := by omega
     simp [c1, this]
    ·by_cases c2 : (s3.size : Int) > 32
     ·have h2 : ¬ s3.size ≤ 32 := by omega
      simp [c1, c2, h2]
     ·have h1 : 1 ≤ s3.size := by omega
      have h2 : s3.size ≤ 32 := by omega
      have hl := term_loop (n := n) (s0 := s0) (s3 := s3) (b1 := false) (j2 := j2) h2 hn s3.size 0 (by omega) n (by omega)
      have hl' : z48_l13 n s0 false j2 s3 n 0 = some (bif decide (over isPlain s3 0 = s3.size) then shownS s3 else ((ByteArray.mk #[], (100, ())), ())) := hl
      simp only [c1, c2, decide_false, cond_false, Bool.not_true, hl', h1, h2, decide_true, Bool.and_true, Bool.true_and, plainS]
end
end Go.Den
