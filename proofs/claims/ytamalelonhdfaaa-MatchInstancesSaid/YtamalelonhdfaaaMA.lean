import Derived.Test.YtamalelonhdfaaaDen26
import Derived.Test.YtamalelonhdfaaaE11
set_option linter.unusedVariables false
set_option linter.unusedSimpArgs false
set_option linter.unusedSectionVars false
/- Orders of constants and of facts. -/
namespace Go.Den
abbrev Cn := Bool × Int × ByteArray
@[reducible] def noS : ByteArray := ByteArray.mk #[]
def cnAt (r : Row) : Cn := (Row.B r 0, Row.I r 1, Row.S r 2)
def sameC (c d : Cn) : Bool := c.1 == d.1 && (c.2.1 == d.2.1 && (c.2.2 == d.2.2 && true))
theorem sameC_eq {c d : Cn} : sameC c d = true ↔ c = d := by
  obtain ⟨a, b, s⟩ := c
  obtain ⟨a', b', s'⟩ := d
  unfold sameC
  simp only [Bool.and_true, Bool.and_eq_true, beq_iff_eq, Prod.mk.injEq]
def less (a b : ByteArray) : Bool := Op.bytesLess (ByteArray.toList a) (ByteArray.toList b)
theorem bytesLess_irrefl : ∀ l : List UInt8, Op.bytesLess l l = false
  | [] => by simp [Op.bytesLess]
  | a :: l => by
    have := bytesLess_irrefl l
    simp [Op.bytesLess, this]
theorem less_irrefl (a : ByteArray) : less a a = false := bytesLess_irrefl _
def texts (a b : ByteArray) : Int := bif less a b then -1 else bif !(less a b || a == b) then 1 else 0
theorem texts_zero {a b : ByteArray} : texts a b = 0 ↔ a = b := by
  unfold texts
  constructor
  · intro h
    cases hl : less a b with
    | true => rw [hl] at h; cases h
    | false =>
      rw [hl] at h
      cases he : a == b with
      | true => exact eq_of_beq he
      | false => rw [he] at h; cases h
  · rintro rfl
    rw [less_irrefl]; simp
def cmpC (a b : Cn) : Int :=
  bif a.1 && !b.1 then -1 else bif b.1 && !a.1 then 1 else bif decide (a.2.1 < b.2.1) then -1 else bif decide (a.2.1 > b.2.1) then 1 else texts a.2.2 b.2.2
theorem cmpC_zero {a b : Cn} : cmpC a b = 0 ↔ a = b := by
  obtain ⟨x, y, s⟩ := a
  obtain ⟨x', y', s'⟩ := b
  unfold cmpC
  constructor
  · intro h
    simp only at h
    cases x <;> cases x' <;> simp only [Bool.not_true, Bool.not_false, Bool.and_true, Bool.and_false, Bool.true_and, Bool.false_and, cond_true, cond_false] at h
    all_goals first
      | (by_cases h1 : y < y'
         · simp only [h1, decide_true, cond_true] at h; cases h
         · by_cases h2 : y > y'
           · simp only [h1, h2, decide_true, decide_false, cond_true, cond_false] at h; cases h
           · simp only [h1, h2, decide_false, cond_false] at h
             have := texts_zero.1 h
             have : y = y' := by omega
             simp_all)
      | cases h
  · intro h
    cases h
    have h1 : ¬ y < y := by omega
    have h2 : ¬ y > y := by omega
    simp only [h1, h2, decide_false, cond_false]
    cases x <;> simp only [Bool.not_true, Bool.not_false, Bool.and_true, Bool.and_false, Bool.true_and, Bool.false_and, cond_false] <;> exact texts_zero.2 rfl
def ordA : Rows → Rows → Int
  | [], [] => 0
  | [], _ :: _ => -1
  | _ :: _, [] => 1
  | x :: l, y :: m => bif cmpC (cnAt x) (cnAt y) != 0 then cmpC (cnAt x) (cnAt y) else ordA l m
theorem ordA_zero : ∀ {a b : Rows}, ordA a b = 0 ↔ a.map cnAt = b.map cnAt
  | [], [] => by simp [ordA]
  | [], _ :: _ => by simp [ordA]
  | _ :: _, [] => by simp [ordA]
  | x :: l, y :: m => by
    unfold ordA
    by_cases h : cmpC (cnAt x) (cnAt y) = 0
    · have he := cmpC_zero.1 h
      have hb : (cmpC (cnAt x) (cnAt y) != 0) = false := by simp [h]
      rw [hb, cond_false, ordA_zero]
      simp [he]
    · have hb : (cmpC (cnAt x) (cnAt y) != 0) = true := by simpa using h
      rw [hb, cond_true]
      constructor
      · intro h'; exact absurd h' h
      · intro h'
        simp only [List.map_cons, List.cons.injEq] at h'
        exact absurd (cmpC_zero.2 h'.1) h
/-- a fact: its place, who says it, its predicate, its arguments -/
abbrev Fc := ByteArray × ByteArray × ByteArray × Rows
def ordF (f g : Fc) : Int := bif !(f.1 == g.1) then texts f.1 g.1 else bif !(f.2.1 == g.2.1) then texts f.2.1 g.2.1 else bif !(f.2.2.1 == g.2.2.1) then texts f.2.2.1 g.2.2.1 else ordA f.2.2.2 g.2.2.2
def sameF (f g : Fc) : Prop := f.1 = g.1 ∧ f.2.1 = g.2.1 ∧ f.2.2.1 = g.2.2.1 ∧ f.2.2.2.map cnAt = g.2.2.2.map cnAt
theorem ordF_zero {f g : Fc} : ordF f g = 0 ↔ sameF f g := by
  obtain ⟨a, b, c, d⟩ := f
  obtain ⟨a', b', c', d'⟩ := g
  unfold ordF sameF
  simp only
  by_cases h1 : a = a'
  · subst h1
    simp only [beq_self_eq_true, Bool.not_true, cond_false, true_and]
    by_cases h2 : b = b'
    · subst h2
      simp only [beq_self_eq_true, Bool.not_true, cond_false, true_and]
      by_cases h3 : c = c'
      · subst h3
        simp only [beq_self_eq_true, Bool.not_true, cond_false, true_and]
        exact ordA_zero
      · have hb : (c == c') = false := by simpa using h3
        simp only [hb, Bool.not_false, cond_true, h3, false_and, iff_false]
        exact fun h => h3 (texts_zero.1 h)
    · have hb : (b == b') = false := by simpa using h2
      simp only [hb, Bool.not_false, cond_true, h2, false_and, iff_false]
      exact fun h => h2 (texts_zero.1 h)
  · have hb : (a == a') = false := by simpa using h1
    simp only [hb, Bool.not_false, cond_true, h1, false_and, iff_false]
    exact fun h => h1 (texts_zero.1 h)
theorem ordF_refl (f : Fc) : ordF f f = 0 := ordF_zero.2 ⟨rfl, rfl, rfl, rfl⟩
def fcAt (r : Row) : Fc := (Row.S r 0, Row.S r 1, Row.S r 2, Row.R r 3)
def likeF : Rows → Rows → Bool
  | [], [] => true
  | a :: l, b :: m => bif ordF (fcAt a) (fcAt b) != 0 then false else likeF l m
  | _, _ => false
theorem likeF_refl : ∀ a : Rows, likeF a a = true
  | [] => rfl
  | r :: l => by simp [likeF, ordF_refl, likeF_refl l]
theorem likeF_len : ∀ {a b : Rows}, likeF a b = true → a.length = b.length
  | [], [], _ => rfl
  | a :: l, b :: m, h => by
    unfold likeF at h
    cases hc : ordF (fcAt a) (fcAt b) != 0 with
    | true => rw [hc] at h; cases h
    | false => rw [hc] at h; simp [likeF_len h]
  | [], _ :: _, h => by simp [likeF] at h
  | _ :: _, [], h => by simp [likeF] at h
end Go.Den
/- The document's order. -/
namespace Go.Den
open Go.Proofs
theorem ref04_texts_q (n : Nat) (a b : ByteArray) : ref04_texts_v n a b = some (texts a b, ()) := by
  rw [ref04_texts_e]
  unfold texts less
  cases Op.bytesLess (ByteArray.toList a) (ByteArray.toList b) with
  | true => rfl
  | false => cases a == b <;> rfl
theorem ref04_Compare_q (n : Nat) (b0 b3 : Bool) (j1 j4 : Int) (s2 s5 : ByteArray) : ref04_Compare_v n b0 j1 s2 b3 j4 s5 = some (cmpC (b0, j1, s2) (b3, j4, s5), ()) := by
  rw [ref04_Compare_e]
  simp only [ref04_texts_q, obind_some]
  unfold cmpC
  cases b0 <;> cases b3 <;> cases decide (j1 < j4) <;> cases decide (j1 > j4) <;> rfl
section
variable {n : Nat} {s0 s1 s2 s5 s6 s7 : ByteArray} {b3 b8 : Bool} {r4 r9 : Rows}
theorem ref04_Order_loop (hb : r4.length < big) : ∀ k q : Nat, q + k = r4.length → q ≤ r9.length → ∀ f, k < f → ref04_Order_l8 n s0 s1 s2 b3 r4 s5 s6 s7 b8 r9 f (q : Int) = some (ordA (r4.drop q) (r9.drop q), ()) := by
  intro k
  induction k with
  | zero =>
    intro q hq hq2 f hf
    obtain ⟨f, rfl⟩ : ∃ z, f = z + 1 := ⟨f - 1, by omega⟩
    rw [ref04_Order_s8, List.drop_eq_nil_of_le (by omega)]
    have h1 : ¬ ((q : Int) < (r4.length : Int)) := by omega
    simp only [h1, decide_false, cond_false]
    by_cases h2 : q < r9.length
    · rw [List.drop_eq_getElem_cons h2]
      have h3 : (r4.length : Int) < (r9.length : Int) := by omega
      simp only [h3, decide_true, cond_true, ordA]
    · rw [List.drop_eq_nil_of_le (by omega)]
      have h3 : ¬ (r4.length : Int) < (r9.length : Int) := by omega
      have h4 : ¬ (r4.length : Int) > (r9.length : Int) := by omega
      simp only [h3, h4, decide_false, cond_false, ordA]
  | succ k ih =>
    intro q hq hq2 f hf
    obtain ⟨f, rfl⟩ : ∃ z, f = z + 1 := ⟨f - 1, by omega⟩
    have hlt : q < r4.length := by omega
    have h1 : (q : Int) < (r4.length : Int) := by omega
    have h0 : (0 : Int) ≤ (q : Int) := by omega
    rw [ref04_Order_s8, List.drop_eq_getElem_cons hlt, wrap_succ (by omega)]
    by_cases h2 : q < r9.length
    · rw [List.drop_eq_getElem_cons h2, ih (q + 1) (by omega) (by omega) f (by omega)]
      have h3 : (q : Int) < (r9.length : Int) := by omega
      simp only [h1, h3, h0, decide_true, cond_true, if_true, Int.toNat_natCast, getD_get hlt, getD_get h2, ref04_Compare_q, obind_some, ordA, cnAt]
      cases cmpC (Row.B r4[q] 0, Row.I r4[q] 1, Row.S r4[q] 2) (Row.B r9[q] 0, Row.I r9[q] 1, Row.S r9[q] 2) != 0 <;> rfl
    · rw [List.drop_eq_nil_of_le (show r9.length ≤ q by omega)]
      have h3 : ¬ (q : Int) < (r9.length : Int) := by omega
      have h4 : ¬ (r4.length : Int) < (r9.length : Int) := by omega
      have h5 : (r4.length : Int) > (r9.length : Int) := by omega
      simp only [h1, h3, h4, h5, decide_true, decide_false, cond_true, cond_false, ordA]
theorem ref04_Order_q (hb : r4.length < big) (hn : r4.length < n) : ref04_Order_v n s0 s1 s2 b3 r4 s5 s6 s7 b8 r9 = some (ordF (s0, s1, s2, r4) (s5, s6, s7, r9), ()) := by
  rw [ref04_Order_e]
  have hl := ref04_Order_loop (n := n) (s0 := s0) (s1 := s1) (s2 := s2) (s5 := s5) (s6 := s6) (s7 := s7) (b3 := b3) (b8 := b8) (r9 := r9) hb r4.length 0 (by omega) (Nat.zero_le _) n hn
  rw [show ((0 : Nat) : Int) = 0 from rfl, List.drop_zero, List.drop_zero] at hl
  simp only [ref04_texts_q, obind_some, hl]
  unfold ordF
  cases s0 == s5 <;> cases s1 == s6 <;> cases s2 == s7 <;> rfl
end
theorem ref04_Like_loop {n : Nat} {b0 b2 : Bool} {r1 r3 : Rows} (hb : r1.length < big) (hl : r1.length = r3.length) (ha : ∀ r ∈ r1, (Row.R r 3).length < n ∧ (Row.R r 3).length < big) : ∀ k j : Nat, j + k = r1.length → ∀ i, k < i → ref04_Like_l4 n b0 r1 b2 r3 i (j : Int) = some (likeF (r1.drop j) (r3.drop j), ()) := by
  intro k
  induction k with
  | zero =>
    intro j hj i hi
    obtain ⟨i, rfl⟩ : ∃ z, i = z + 1 := ⟨i - 1, by omega⟩
    rw [ref04_Like_s4, List.drop_eq_nil_of_le (by omega), List.drop_eq_nil_of_le (by omega)]
    have h1 : ¬ ((j : Int) < (r1.length : Int)) := by omega
    simp only [h1, decide_false, cond_false, likeF]
  | succ k ih =>
    intro j hj i hi
    obtain ⟨i, rfl⟩ : ∃ z, i = z + 1 := ⟨i - 1, by omega⟩
    have hlt : j < r1.length := by omega
    have hlt2 : j < r3.length := by omega
    rw [ref04_Like_s4, List.drop_eq_getElem_cons hlt, List.drop_eq_getElem_cons hlt2]
    have h1 : (j : Int) < (r1.length : Int) := by omega
    have h2 : (j : Int) < (r3.length : Int) := by omega
    have h0 : (0 : Int) ≤ (j : Int) := by omega
    have hq := ha _ (List.getElem_mem hlt)
    rw [wrap_succ (by omega), ih (j + 1) (by omega) i (by omega)]
    simp only [h1, h2, h0, decide_true, cond_true, if_true, Int.toNat_natCast, getD_get hlt, getD_get hlt2, likeF, fcAt, ref04_Order_q hq.2 hq.1, obind_some]
    cases ordF (Row.S r1[j] 0, Row.S r1[j] 1, Row.S r1[j] 2, Row.R r1[j] 3) (Row.S r3[j] 0, Row.S r3[j] 1, Row.S r3[j] 2, Row.R r3[j] 3) != 0 <;> rfl
theorem ref04_Like_q {n : Nat} {b0 b2 : Bool} {r1 r3 : Rows} (hb : r1.length < big) (hn : r1.length < n) (ha : ∀ r ∈ r1, (Row.R r 3).length < n ∧ (Row.R r 3).length < big) : ref04_Like_v n b0 r1 b2 r3 = some (likeF r1 r3, ()) := by
  rw [ref04_Like_e]
  by_cases hl : r1.length = r3.length
  · have h1 : ((r1.length : Int) != (r3.length : Int)) = false := by simp [hl]
    rw [h1]
    exact ref04_Like_loop hb hl ha r1.length 0 (by omega) n hn
  · have h1 : ((r1.length : Int) != (r3.length : Int)) = true := by simp; omega
    rw [h1]
    cases h : likeF r1 r3 with
    | false => rfl
    | true => exact absurd (likeF_len h) hl
end Go.Den
/- The code's order. -/
namespace Go.Den
open Go.Proofs
theorem cmp_Compare_q (n : Nat) (a b : ByteArray) : cmp_Compare_v n a b = some (texts a b, ()) := by
  rw [cmp_Compare_e]
  have h : ∀ s : ByteArray, cmp_isNaN_v n s = some (false, ()) := fun s => by rw [cmp_isNaN_e]; simp
  simp only [h, obind_some, cond_false]
  unfold texts less
  cases Op.bytesLess (ByteArray.toList a) (ByteArray.toList b) with
  | true => rfl
  | false => cases a == b <;> rfl
def cmpI (a b : Int) : Int := bif decide (a < b) then -1 else bif decide (a > b) then 1 else 0
theorem cmp_CompareI_q (n : Nat) (a b : Int) : cmp_Compare_i2_v n a b = some (cmpI a b, ()) := by
  rw [cmp_Compare_i2_e]
  have h : ∀ s : Int, cmp_isNaN_i2_v n s = some (false, ()) := fun s => by rw [cmp_isNaN_i2_e]; simp
  simp only [h, obind_some, cond_false]
  unfold cmpI
  cases decide (a < b) <;> cases decide (a > b) <;> rfl
def firstNZ : Rows → Int
  | [] => 0
  | r :: l => bif Row.I r 0 != 0 then Row.I r 0 else firstNZ l
theorem cmp_Or_loop {n : Nat} {b : Bool} {r1 : Rows} (hb : r1.length < big) : ∀ k q : Nat, q + k = r1.length → ∀ f, k < f → cmp_Or_l3 n b r1 f (q : Int) = some (firstNZ (r1.drop q), ()) := by
  intro k
  induction k with
  | zero =>
    intro q hq f hf
    obtain ⟨f, rfl⟩ : ∃ z, f = z + 1 := ⟨f - 1, by omega⟩
    rw [cmp_Or_s3, List.drop_eq_nil_of_le (by omega)]
    have h1 : ¬ ((q : Int) < (r1.length : Int)) := by omega
    simp only [h1, decide_false, cond_false, firstNZ]
  | succ k ih =>
    intro q hq f hf
    obtain ⟨f, rfl⟩ : ∃ z, f = z + 1 := ⟨f - 1, by omega⟩
    have hlt : q < r1.length := by omega
    have h1 : (q : Int) < (r1.length : Int) := by omega
    have h0 : (0 : Int) ≤ (q : Int) := by omega
    rw [cmp_Or_s3, List.drop_eq_getElem_cons hlt, wrap_succ (by omega), ih (q + 1) (by omega) f (by omega)]
    simp only [h1, h0, decide_true, cond_true, if_true, Int.toNat_natCast, getD_get hlt, firstNZ]
    cases Row.I r1[q] 0 != 0 <;> rfl
theorem cmp_Or_q {n : Nat} {b : Bool} {r1 : Rows} (hb : r1.length < big) (hn : r1.length < n) : cmp_Or_v n b r1 = some (firstNZ r1, ()) := by
  rw [cmp_Or_e]
  exact cmp_Or_loop hb r1.length 0 (by omega) n hn
theorem fact_Compare_q {n : Nat} (hn : 10 < n) (b0 b3 : Bool) (j1 j4 : Int) (s2 s5 : ByteArray) : fact_Compare_v n b0 j1 s2 b3 j4 s5 = some (cmpC (b0, j1, s2) (b3, j4, s5), ()) := by
  rw [fact_Compare_e]
  simp only [cmp_CompareI_q, cmp_Compare_q, obind_some]
  rw [cmp_Or_q (by unfold big; simp) (by simp; omega)]
  simp only [obind_some]
  have e : firstNZ [[DV.val (Value.int IntKind.i64 (cmpI j1 j4))], [DV.val (Value.int IntKind.i64 (texts s2 s5))]] = bif cmpI j1 j4 != 0 then cmpI j1 j4 else bif texts s2 s5 != 0 then texts s2 s5 else 0 := rfl
  rw [e]
  have ht : (bif texts s2 s5 != 0 then texts s2 s5 else 0) = texts s2 s5 := by
    by_cases h : texts s2 s5 = 0
    · rw [h]; rfl
    · have : (texts s2 s5 != 0) = true := by simpa using h
      rw [this]; rfl
  rw [ht]
  unfold cmpC cmpI
  cases b0 <;> cases b3 <;> cases decide (j1 < j4) <;> cases decide (j1 > j4) <;> rfl
theorem compareFunc_loop {n : Nat} {b0 b2 : Bool} {r1 r3 : Rows} (hn : 10 < n) (hb : r1.length < big) : ∀ k q : Nat, q + k = r1.length → q ≤ r3.length → ∀ f, k < f → slices_CompareFunc_fact_Compare_l2 n b0 r1 b2 r3 f (q : Int) = some (ordA (r1.drop q) (r3.drop q), ()) := by
  intro k
  induction k with
  | zero =>
    intro q hq hq2 f hf
    obtain ⟨f, rfl⟩ : ∃ z, f = z + 1 := ⟨f - 1, by omega⟩
    rw [slices_CompareFunc_fact_Compare_s2, List.drop_eq_nil_of_le (by omega)]
    have h1 : ¬ ((q : Int) < (r1.length : Int)) := by omega
    simp only [h1, decide_false, cond_false]
    by_cases h2 : q < r3.length
    · rw [List.drop_eq_getElem_cons h2]
      have h3 : (r1.length : Int) < (r3.length : Int) := by omega
      simp only [h3, decide_true, cond_true, ordA]
    · rw [List.drop_eq_nil_of_le (by omega)]
      have h3 : ¬ (r1.length : Int) < (r3.length : Int) := by omega
      simp only [h3, decide_false, cond_false, ordA]
  | succ k ih =>
    intro q hq hq2 f hf
    obtain ⟨f, rfl⟩ : ∃ z, f = z + 1 := ⟨f - 1, by omega⟩
    have hlt : q < r1.length := by omega
    have h1 : (q : Int) < (r1.length : Int) := by omega
    have h0 : (0 : Int) ≤ (q : Int) := by omega
    rw [slices_CompareFunc_fact_Compare_s2, List.drop_eq_getElem_cons hlt, wrap_succ (by omega)]
    by_cases h2 : q < r3.length
    · rw [List.drop_eq_getElem_cons h2, ih (q + 1) (by omega) (by omega) f (by omega)]
      have h3 : (q : Int) < (r3.length : Int) := by omega
      have h4 : ¬ (q : Int) ≥ (r3.length : Int) := by omega
      simp only [h1, h3, h4, h0, decide_true, decide_false, cond_true, cond_false, if_true, Int.toNat_natCast, getD_get hlt, getD_get h2, fact_Compare_q hn, obind_some, ordA, cnAt]
      cases cmpC (Row.B r1[q] 0, Row.I r1[q] 1, Row.S r1[q] 2) (Row.B r3[q] 0, Row.I r3[q] 1, Row.S r3[q] 2) != 0 <;> rfl
    · rw [List.drop_eq_nil_of_le (show r3.length ≤ q by omega)]
      have h4 : (q : Int) ≥ (r3.length : Int) := by omega
      simp only [h1, h0, h4, decide_true, cond_true, if_true, ordA]
theorem fact_Order_q {n : Nat} {s0 s1 s2 s5 s6 s7 : ByteArray} {b3 b8 : Bool} {r4 r9 : Rows} (hb : r4.length < big) (hn : r4.length < n) (hn1 : 10 < n) : fact_Order_v n s0 s1 s2 b3 r4 s5 s6 s7 b8 r9 = some (ordF (s0, s1, s2, r4) (s5, s6, s7, r9), ()) := by
  rw [fact_Order_e, slices_CompareFunc_fact_Compare_e]
  have hl := compareFunc_loop (n := n) (b0 := b3) (b2 := b8) (r3 := r9) hn1 hb r4.length 0 (by omega) (Nat.zero_le _) n hn
  rw [show ((0 : Nat) : Int) = 0 from rfl, List.drop_zero, List.drop_zero] at hl
  simp only [cmp_Compare_q, hl, obind_some]
  rw [cmp_Or_q (by unfold big; simp) (by simp; omega)]
  simp only [obind_some]
  have e : ∀ a b c d : Int, firstNZ [[DV.val (Value.int IntKind.i64 a)], [DV.val (Value.int IntKind.i64 b)], [DV.val (Value.int IntKind.i64 c)], [DV.val (Value.int IntKind.i64 d)]] = bif a != 0 then a else bif b != 0 then b else bif c != 0 then c else bif d != 0 then d else 0 := fun _ _ _ _ => rfl
  rw [e]
  have hd : ∀ d : Int, (bif d != 0 then d else 0) = d := by
    intro d
    by_cases h : d = 0
    · rw [h]; rfl
    · have : (d != 0) = true := by simpa using h
      rw [this]; rfl
  rw [hd]
  have ht : ∀ (a b : ByteArray) (x : Int), (bif texts a b != 0 then texts a b else x) = bif !(a == b) then texts a b else x := by
    intro a b x
    by_cases h : a = b
    · subst h
      rw [texts_zero.2 rfl]; simp
    · have h1 : (texts a b != 0) = true := by
        have : texts a b ≠ 0 := fun h' => h (texts_zero.1 h')
        simpa using this
      have h2 : (a == b) = false := by simpa using h
      rw [h1, h2]; rfl
  rw [ht, ht, ht]
  rfl
end Go.Den
/- How great facts and rules are. -/
namespace Go.Den
/-- A sum that stops when it is too great. -/
def sumTo (most : Int) (f : Row → Int) : Rows → Int → Int
  | [], n => n
  | r :: l, n => bif decide (n ≤ most) then sumTo most f l (n + f r) else n
theorem sumTo_ge {most : Int} {f : Row → Int} : ∀ (l : Rows) (n : Int), (∀ r ∈ l, 0 ≤ f r) → n ≤ sumTo most f l n
  | [], n, _ => Int.le_refl _
  | r :: l, n, h => by
    unfold sumTo
    have h0 := h r List.mem_cons_self
    have := sumTo_ge (most := most) l (n + f r) (fun q hq => h q (List.mem_cons_of_mem _ hq))
    cases decide (n ≤ most) with
    | true => simp only [cond_true]; omega
    | false => simp only [cond_false]; omega
theorem sumTo_all {most : Int} {f : Row → Int} : ∀ (l : Rows) (n : Int), (∀ r ∈ l, 1 ≤ f r) → sumTo most f l n ≤ most → n + l.length ≤ sumTo most f l n ∧ ∀ r ∈ l, n + f r ≤ sumTo most f l n
  | [], n, _, _ => ⟨by simp [sumTo], fun r hr => by cases hr⟩
  | r :: l, n, h, hm => by
    unfold sumTo at hm ⊢
    have h1 := h r List.mem_cons_self
    have hl : ∀ q ∈ l, 1 ≤ f q := fun q hq => h q (List.mem_cons_of_mem _ hq)
    by_cases hn : n ≤ most
    · simp only [hn, decide_true, cond_true] at hm ⊢
      obtain ⟨a, b⟩ := sumTo_all l (n + f r) hl hm
      have g := sumTo_ge (most := most) (f := f) l (n + f r) (fun q hq => by have := hl q hq; omega)
      refine ⟨by simp only [List.length_cons]; omega, fun q hq => ?_⟩
      rcases List.mem_cons.1 hq with rfl | hq
      · exact g
      · have := b q hq; omega
    · rw [decide_eq_false hn] at hm
      exact absurd hm hn
theorem sumTo_le {most : Int} {f : Row → Int} {b : Int} (hb : 0 ≤ b) : ∀ (l : Rows) (n : Int), (∀ r ∈ l, f r ≤ b) → n ≤ most + b → sumTo most f l n ≤ most + b
  | [], n, _, hn => hn
  | r :: l, n, h, hn => by
    unfold sumTo
    have h0 := h r List.mem_cons_self
    by_cases hm : n ≤ most
    · simp only [hm, decide_true, cond_true]
      exact sumTo_le hb l (n + f r) (fun q hq => h q (List.mem_cons_of_mem _ hq)) (by omega)
    · simp only [hm, decide_false, cond_false]; exact hn
/-- a list's part of a sum: 1, its arguments, its name -/
def w5l (r : Row) : Int := 1 + ((Row.R r 5).length : Int) + Int.tdiv ((Row.S r 4).size : Int) 16
def w5r (most : Int) (r : Row) (n : Int) : Int := sumTo most w5l (Row.R r 10) (n + w5l r)
def weight5 (most : Int) : Rows → Int → Int
  | [], n => n
  | r :: l, n => bif decide (n ≤ most) then weight5 most l (w5r most r n) else n
def w4c (r : Row) : Int := Int.tdiv ((Row.S r 2).size : Int) 16
def w4f (r : Row) : Int := 1 + ((Row.R r 3).length : Int) + Int.tdiv (((Row.S r 0).size : Int) + (Row.S r 1).size + (Row.S r 2).size) 16
def w4r (most : Int) (r : Row) (n : Int) : Int := sumTo most w4c (Row.R r 3) (n + w4f r)
def weight4 (most : Int) : Rows → Int → Int
  | [], n => n
  | r :: l, n => bif decide (n ≤ most) then weight4 most l (w4r most r n) else n
@[reducible] def kT : List Kd := [.s, .b, .i .i64, .s]
@[reducible] def kC : List Kd := [.b, .i .i64, .s]
@[reducible] def kL : List Kd := [.s, .b, .i .i64, .s, .s, .sl kT, .s, .b, .i .i64, .s]
@[reducible] def kR : List Kd := [.s, .b, .i .i64, .s, .s, .sl kT, .s, .b, .i .i64, .s, .sl kL]
@[reducible] def kF : List Kd := [.s, .s, .s, .sl kC]
theorem tdiv16 {n : Nat} (h : n ≤ 3 * reachBytes) : 0 ≤ Int.tdiv (n : Int) 16 ∧ Int.tdiv (n : Int) 16 ≤ 3 * reachBytes := by
  have e : Int.tdiv (n : Int) 16 = ((n / 16 : Nat) : Int) := rfl
  rw [e]
  have : n / 16 ≤ n := Nat.div_le_self _ _
  omega
theorem w5l_bound {r : Row} (hl : (Row.R r 5).length ≤ reachBytes) (hs : (Row.S r 4).size ≤ reachBytes) : 1 ≤ w5l r ∧ w5l r ≤ 1000000000000000 ∧ ((Row.R r 5).length : Int) < w5l r := by
  unfold w5l
  have := tdiv16 (n := (Row.S r 4).size) (by omega)
  unfold reachBytes at *
  omega
theorem w4c_bound {r : Row} (hs : (Row.S r 2).size ≤ reachBytes) : 0 ≤ w4c r ∧ w4c r ≤ 1000000000000000 := by
  unfold w4c
  have := tdiv16 (n := (Row.S r 2).size) (by omega)
  unfold reachBytes at *
  omega
theorem w4f_bound {r : Row} (hl : (Row.R r 3).length ≤ reachBytes) (h0 : (Row.S r 0).size ≤ reachBytes) (h1 : (Row.S r 1).size ≤ reachBytes) (h2 : (Row.S r 2).size ≤ reachBytes) : 1 ≤ w4f r ∧ w4f r ≤ 1000000000000000 ∧ ((Row.R r 3).length : Int) < w4f r := by
  unfold w4f
  have := tdiv16 (n := (Row.S r 0).size + (Row.S r 1).size + (Row.S r 2).size) (by omega)
  simp only [Int.natCast_add] at this
  unfold reachBytes at *
  omega
/-- what is known of rules' rows -/
theorem fineL {r : Row} (h : Row.ofKds kL r = true ∧ RowFine r) : (Row.R r 5).length ≤ reachBytes ∧ (Row.S r 4).size ≤ reachBytes := ⟨(fine_sl (j := 5) h.1 h.2 rfl).1, fine_S h.2⟩
theorem fineR {r : Row} (h : Row.ofKds kR r = true ∧ RowFine r) : (Row.R r 5).length ≤ reachBytes ∧ (Row.S r 4).size ≤ reachBytes ∧ (Row.R r 10).length ≤ reachBytes ∧ RowsFine kL (Row.R r 10) := ⟨(fine_sl (j := 5) h.1 h.2 rfl).1, fine_S h.2, (fine_sl (j := 10) h.1 h.2 rfl).1, (fine_sl (j := 10) h.1 h.2 rfl).2.2.1⟩
theorem fineF {r : Row} (h : Row.ofKds kF r = true ∧ RowFine r) : (Row.R r 3).length ≤ reachBytes ∧ (Row.S r 0).size ≤ reachBytes ∧ (Row.S r 1).size ≤ reachBytes ∧ (Row.S r 2).size ≤ reachBytes ∧ RowsFine kC (Row.R r 3) := ⟨(fine_sl (j := 3) h.1 h.2 rfl).1, fine_S h.2, fine_S h.2, fine_S h.2, (fine_sl (j := 3) h.1 h.2 rfl).2.2.1⟩
end Go.Den
/- The code of the weights. -/
namespace Go.Den
open Go.Proofs
theorem W_add {a b : Int} (h1 : -4611686018427387904 ≤ a + b) (h2 : a + b ≤ 4611686018427387904) : IntKind.wrap IntKind.i64 (a + b) = a + b := wrap_small h1 h2
theorem wsum {z a b : Int} (h0 : 0 ≤ z) (h1 : z ≤ 3000000000000000) (h2 : 0 ≤ a) (h3 : a ≤ 1000000000000000) (h4 : 0 ≤ b) (h5 : b ≤ 1000000000000000) :
    IntKind.wrap IntKind.i64 (z + IntKind.wrap IntKind.i64 (IntKind.wrap IntKind.i64 (1 + a) + IntKind.wrap IntKind.i64 b)) = z + (1 + a + b) := by
  rw [wrap_small (z := 1 + a) (by omega) (by omega), wrap_small (z := b) (by omega) (by omega), wrap_small (z := 1 + a + b) (by omega) (by omega), wrap_small (z := z + (1 + a + b)) (by omega) (by omega)]
section
variable {n : Nat} {b0 : Bool} {most : Int} (hm0 : 0 ≤ most) (hm : most ≤ 1000000)
include hm0 hm
theorem weight5_inner {r1 : Rows} (hr : RowsFine kR r1) (hlen : r1.length ≤ reachBytes) {j i0 : Nat} (hj : j < r1.length) : ∀ k q : Nat, q + k = (Row.R r1[j] 10).length → ∀ i z, k < i → 0 ≤ z → z ≤ most + 2000000000000000 →
    ref05_Weight_l7 n b0 r1 most i0 i z (q : Int) (j : Int) = ref05_Weight_l3 n b0 r1 most i0 (sumTo most w5l ((Row.R r1[j] 10).drop q) z) ((j + 1 : Nat) : Int) := by
  have hfr := fineR (rowsFine_get hr hj)
  have g1 : (0 : Int) ≤ (j : Int) := by omega
  have g2 : (j : Int) < (r1.length : Int) := by omega
  have wj : IntKind.wrap IntKind.i64 ((j : Int) + 1) = ((j + 1 : Nat) : Int) := wrap_succ (by unfold reachBytes at *; unfold big; omega)
  intro k
  induction k with
  | zero =>
    intro q hq i z hi h0 hz
    obtain ⟨i, rfl⟩ : ∃ m, i = m + 1 := ⟨i - 1, by omega⟩
    rw [ref05_Weight_s7]
    simp only [g1, g2, if_true, Int.toNat_natCast, getD_get hj]
    have h1 : ¬ (q : Int) < ((Row.R r1[j] 10).length : Int) := by omega
    rw [List.drop_eq_nil_of_le (by omega)]
    simp only [h1, decide_false, cond_false, sumTo, wj]
  | succ k ih =>
    intro q hq i z hi h0 hz
    obtain ⟨i, rfl⟩ : ∃ m, i = m + 1 := ⟨i - 1, by omega⟩
    have hlt : q < (Row.R r1[j] 10).length := by omega
    rw [ref05_Weight_s7, List.drop_eq_getElem_cons hlt]
    have h1 : (q : Int) < ((Row.R r1[j] 10).length : Int) := by omega
    have h2 : (0 : Int) ≤ (q : Int) := by omega
    simp only [g1, g2, if_true, Int.toNat_natCast, getD_get hj, h1, h2, decide_true, cond_true, getD_get hlt, sumTo, wj]
    by_cases hzm : z ≤ most
    · have hfl := fineL (rowsFine_get hfr.2.2.2 hlt)
      have hb := w5l_bound hfl.1 hfl.2
      have ht := tdiv16 (n := (Row.S (Row.R r1[j] 10)[q] 4).size) (by omega)
      have wq : IntKind.wrap IntKind.i64 ((q : Int) + 1) = ((q + 1 : Nat) : Int) := wrap_succ (by unfold reachBytes at *; unfold big; omega)
      have hw : IntKind.wrap IntKind.i64 (z + IntKind.wrap IntKind.i64 (IntKind.wrap IntKind.i64 (1 + ((Row.R (Row.R r1[j] 10)[q] 5).length : Int)) + IntKind.wrap IntKind.i64 (Int.tdiv ((Row.S (Row.R r1[j] 10)[q] 4).size : Int) 16))) = z + w5l (Row.R r1[j] 10)[q] := by
        unfold w5l at hb ⊢
        unfold reachBytes at *
        exact wsum (by omega) (by omega) (by omega) (by omega) (by omega) (by omega)
      simp only [hzm, decide_true, cond_true, hw, wq]
      exact ih (q + 1) (by omega) i _ (by omega) (by omega) (by omega)
    · simp only [hzm, decide_false, cond_false]
theorem weight5_outer {r1 : Rows} (hr : RowsFine kR r1) (hlen : r1.length ≤ reachBytes) (hn : ∀ r ∈ r1, (Row.R r 10).length < n) : ∀ k q : Nat, q + k = r1.length → ∀ i z, k < i → 0 ≤ z → z ≤ most + 2000000000000000 →
    ref05_Weight_l3 n b0 r1 most i z (q : Int) = some (weight5 most (r1.drop q) z, ()) := by
  intro k
  induction k with
  | zero =>
    intro q hq i z hi h0 hz
    obtain ⟨i, rfl⟩ : ∃ m, i = m + 1 := ⟨i - 1, by omega⟩
    rw [ref05_Weight_s3, List.drop_eq_nil_of_le (by omega)]
    have h1 : ¬ (q : Int) < (r1.length : Int) := by omega
    simp only [h1, decide_false, cond_false, weight5]
  | succ k ih =>
    intro q hq i z hi h0 hz
    obtain ⟨i, rfl⟩ : ∃ m, i = m + 1 := ⟨i - 1, by omega⟩
    have hlt : q < r1.length := by omega
    have hfr := fineR (rowsFine_get hr hlt)
    rw [ref05_Weight_s3, List.drop_eq_getElem_cons hlt]
    have h1 : (q : Int) < (r1.length : Int) := by omega
    have h2 : (0 : Int) ≤ (q : Int) := by omega
    simp only [h1, h2, if_true, decide_true, cond_true, Int.toNat_natCast, getD_get hlt, weight5]
    by_cases hzm : z ≤ most
    · have hb := w5l_bound hfr.1 hfr.2.1
      have ht := tdiv16 (n := (Row.S r1[q] 4).size) (by omega)
      have hw : IntKind.wrap IntKind.i64 (z + IntKind.wrap IntKind.i64 (IntKind.wrap IntKind.i64 (1 + ((Row.R r1[q] 5).length : Int)) + IntKind.wrap IntKind.i64 (Int.tdiv ((Row.S r1[q] 4).size : Int) 16))) = z + w5l r1[q] := by
        unfold w5l at hb ⊢
        unfold reachBytes at *
        exact wsum (by omega) (by omega) (by omega) (by omega) (by omega) (by omega)
      simp only [hzm, decide_true, cond_true, hw]
      have hi := weight5_inner hm0 hm (n := n) (b0 := b0) hr hlen (i0 := i) hlt (Row.R r1[q] 10).length 0 (by omega) n (z + w5l r1[q]) (hn _ (List.getElem_mem hlt)) (by omega) (by omega)
      rw [show ((0 : Nat) : Int) = 0 from rfl] at hi
      rw [hi, List.drop_zero]
      have hfl : ∀ r ∈ Row.R r1[q] 10, 1 ≤ w5l r ∧ w5l r ≤ 1000000000000000 := fun r hr' => by
        have hfl := fineL (rowsFine_mem hfr.2.2.2 hr')
        have := w5l_bound hfl.1 hfl.2
        omega
      have a1 := sumTo_ge (most := most) (f := w5l) (Row.R r1[q] 10) (z + w5l r1[q]) (fun r hr' => by have := hfl r hr'; omega)
      have a2 := sumTo_le (most := most) (f := w5l) (b := 1000000000000000) (by omega) (Row.R r1[q] 10) (z + w5l r1[q]) (fun r hr' => by have := hfl r hr'; omega) (by omega)
      exact ih (q + 1) (by omega) i _ (by omega) (by omega) (by omega)
    · simp only [hzm, decide_false, cond_false]
theorem weight5_q {r1 : Rows} (hr : RowsFine kR r1) (hlen : r1.length ≤ reachBytes) (hn : ∀ r ∈ r1, (Row.R r 10).length < n) (hn' : r1.length < n) : ref05_Weight_v n b0 r1 most = some (weight5 most r1 0, ()) := by
  rw [ref05_Weight_e]
  exact weight5_outer hm0 hm hr hlen hn r1.length 0 (by omega) n 0 hn' (by omega) (by omega)
end
end Go.Den
/- The code of the weights of facts; what a small weight bounds. -/
namespace Go.Den
open Go.Proofs
section
variable {n : Nat} {b0 : Bool} {most : Int} (hm0 : 0 ≤ most) (hm : most ≤ 1000000)
include hm0 hm
theorem weight4_inner {r1 : Rows} (hr : RowsFine kF r1) (hlen : r1.length ≤ reachBytes) {j i0 : Nat} (hj : j < r1.length) : ∀ k q : Nat, q + k = (Row.R r1[j] 3).length → ∀ i z, k < i → 0 ≤ z → z ≤ most + 2000000000000000 →
    ref04_Weight_l7 n b0 r1 most i0 i z (q : Int) (j : Int) = ref04_Weight_l3 n b0 r1 most i0 (sumTo most w4c ((Row.R r1[j] 3).drop q) z) ((j + 1 : Nat) : Int) := by
  have hfr := fineF (rowsFine_get hr hj)
  have g1 : (0 : Int) ≤ (j : Int) := by omega
  have g2 : (j : Int) < (r1.length : Int) := by omega
  have wj : IntKind.wrap IntKind.i64 ((j : Int) + 1) = ((j + 1 : Nat) : Int) := wrap_succ (by unfold reachBytes at *; unfold big; omega)
  intro k
  induction k with
  | zero =>
    intro q hq i z hi h0 hz
    obtain ⟨i, rfl⟩ : ∃ m, i = m + 1 := ⟨i - 1, by omega⟩
    rw [ref04_Weight_s7]
    simp only [g1, g2, if_true, Int.toNat_natCast, getD_get hj]
    have h1 : ¬ (q : Int) < ((Row.R r1[j] 3).length : Int) := by omega
    rw [List.drop_eq_nil_of_le (by omega)]
    simp only [h1, decide_false, cond_false, sumTo, wj]
  | succ k ih =>
    intro q hq i z hi h0 hz
    obtain ⟨i, rfl⟩ : ∃ m, i = m + 1 := ⟨i - 1, by omega⟩
    have hlt : q < (Row.R r1[j] 3).length := by omega
    rw [ref04_Weight_s7, List.drop_eq_getElem_cons hlt]
    have h1 : (q : Int) < ((Row.R r1[j] 3).length : Int) := by omega
    have h2 : (0 : Int) ≤ (q : Int) := by omega
    simp only [g1, g2, if_true, Int.toNat_natCast, getD_get hj, h1, h2, decide_true, cond_true, getD_get hlt, sumTo, wj]
    by_cases hzm : z ≤ most
    · have hs := fine_S (j := 2) (rowsFine_get hfr.2.2.2.2 hlt).2
      have hb := w4c_bound hs
      have wq : IntKind.wrap IntKind.i64 ((q : Int) + 1) = ((q + 1 : Nat) : Int) := wrap_succ (by unfold reachBytes at *; unfold big; omega)
      have hw : IntKind.wrap IntKind.i64 (z + IntKind.wrap IntKind.i64 (Int.tdiv ((Row.S (Row.R r1[j] 3)[q] 2).size : Int) 16)) = z + w4c (Row.R r1[j] 3)[q] := by
        unfold w4c at hb ⊢
        rw [wrap_small (z := Int.tdiv ((Row.S (Row.R r1[j] 3)[q] 2).size : Int) 16) (by omega) (by omega), wrap_small (z := z + Int.tdiv ((Row.S (Row.R r1[j] 3)[q] 2).size : Int) 16) (by omega) (by omega)]
      simp only [hzm, decide_true, cond_true, hw, wq]
      exact ih (q + 1) (by omega) i _ (by omega) (by omega) (by omega)
    · simp only [hzm, decide_false, cond_false]
theorem weight4_outer {r1 : Rows} (hr : RowsFine kF r1) (hlen : r1.length ≤ reachBytes) (hn : ∀ r ∈ r1, (Row.R r 3).length < n) : ∀ k q : Nat, q + k = r1.length → ∀ i z, k < i → 0 ≤ z → z ≤ most + 2000000000000000 →
    ref04_Weight_l3 n b0 r1 most i z (q : Int) = some (weight4 most (r1.drop q) z, ()) := by
  intro k
  induction k with
  | zero =>
    intro q hq i z hi h0 hz
    obtain ⟨i, rfl⟩ : ∃ m, i = m + 1 := ⟨i - 1, by omega⟩
    rw [ref04_Weight_s3, List.drop_eq_nil_of_le (by omega)]
    have h1 : ¬ (q : Int) < (r1.length : Int) := by omega
    simp only [h1, decide_false, cond_false, weight4]
  | succ k ih =>
    intro q hq i z hi h0 hz
    obtain ⟨i, rfl⟩ : ∃ m, i = m + 1 := ⟨i - 1, by omega⟩
    have hlt : q < r1.length := by omega
    have hfr := fineF (rowsFine_get hr hlt)
    rw [ref04_Weight_s3, List.drop_eq_getElem_cons hlt]
    have h1 : (q : Int) < (r1.length : Int) := by omega
    have h2 : (0 : Int) ≤ (q : Int) := by omega
    simp only [h1, h2, if_true, decide_true, cond_true, Int.toNat_natCast, getD_get hlt, weight4]
    by_cases hzm : z ≤ most
    · have hb := w4f_bound hfr.1 hfr.2.1 hfr.2.2.1 hfr.2.2.2.1
      have ht := tdiv16 (n := (Row.S r1[q] 0).size + (Row.S r1[q] 1).size + (Row.S r1[q] 2).size) (by omega)
      have hw : IntKind.wrap IntKind.i64 (z + IntKind.wrap IntKind.i64 (IntKind.wrap IntKind.i64 (1 + ((Row.R r1[q] 3).length : Int)) + IntKind.wrap IntKind.i64 (Int.tdiv (IntKind.wrap IntKind.i64 (IntKind.wrap IntKind.i64 (((Row.S r1[q] 0).size : Int) + ((Row.S r1[q] 1).size : Int)) + ((Row.S r1[q] 2).size : Int))) 16))) = z + w4f r1[q] := by
        simp only [Int.natCast_add] at ht
        unfold w4f at hb ⊢
        unfold reachBytes at *
        rw [wrap_small (z := ((Row.S r1[q] 0).size : Int) + ((Row.S r1[q] 1).size : Int)) (by omega) (by omega), wrap_small (z := ((Row.S r1[q] 0).size : Int) + ((Row.S r1[q] 1).size : Int) + ((Row.S r1[q] 2).size : Int)) (by omega) (by omega)]
        exact wsum (by omega) (by omega) (by omega) (by omega) (by omega) (by omega)
      simp only [hzm, decide_true, cond_true, hw]
      have hi := weight4_inner hm0 hm (n := n) (b0 := b0) hr hlen (i0 := i) hlt (Row.R r1[q] 3).length 0 (by omega) n (z + w4f r1[q]) (hn _ (List.getElem_mem hlt)) (by omega) (by omega)
      rw [show ((0 : Nat) : Int) = 0 from rfl] at hi
      rw [hi, List.drop_zero]
      have hfl : ∀ r ∈ Row.R r1[q] 3, 0 ≤ w4c r ∧ w4c r ≤ 1000000000000000 := fun r hr' => w4c_bound (fine_S (rowsFine_mem hfr.2.2.2.2 hr').2)
      have a1 := sumTo_ge (most := most) (f := w4c) (Row.R r1[q] 3) (z + w4f r1[q]) (fun r hr' => by have := hfl r hr'; omega)
      have a2 := sumTo_le (most := most) (f := w4c) (b := 1000000000000000) (by omega) (Row.R r1[q] 3) (z + w4f r1[q]) (fun r hr' => by have := hfl r hr'; omega) (by omega)
      exact ih (q + 1) (by omega) i _ (by omega) (by omega) (by omega)
    · simp only [hzm, decide_false, cond_false]
theorem weight4_q {r1 : Rows} (hr : RowsFine kF r1) (hlen : r1.length ≤ reachBytes) (hn : ∀ r ∈ r1, (Row.R r 3).length < n) (hn' : r1.length < n) : ref04_Weight_v n b0 r1 most = some (weight4 most r1 0, ()) := by
  rw [ref04_Weight_e]
  exact weight4_outer hm0 hm hr hlen hn r1.length 0 (by omega) n 0 hn' (by omega) (by omega)
end
/-- a small weight -/
theorem weight5_ge {most : Int} : ∀ (l : Rows) (z : Int), RowsFine kR l → z ≤ weight5 most l z
  | [], z, _ => Int.le_refl _
  | r :: l, z, h => by
    unfold weight5
    have hfr := fineR ⟨h.1, h.2.1⟩
    have hb := w5l_bound hfr.1 hfr.2.1
    have hfl : ∀ q ∈ Row.R r 10, 0 ≤ w5l q := fun q hq => by
      have hfl := fineL (rowsFine_mem hfr.2.2.2 hq)
      have := w5l_bound hfl.1 hfl.2
      omega
    have a1 := sumTo_ge (most := most) (f := w5l) (Row.R r 10) (z + w5l r) hfl
    have := weight5_ge (most := most) l (w5r most r z) h.2.2
    unfold w5r at *
    cases decide (z ≤ most) with
    | true => simp only [cond_true]; omega
    | false => simp only [cond_false]; omega
theorem weight5_all {most : Int} : ∀ (l : Rows) (z : Int), RowsFine kR l → 0 ≤ z → weight5 most l z ≤ most → z + l.length ≤ most ∧ ∀ r ∈ l, ((Row.R r 5).length : Int) ≤ most ∧ ((Row.R r 10).length : Int) ≤ most ∧ ∀ q ∈ Row.R r 10, ((Row.R q 5).length : Int) ≤ most
  | [], z, _, _, hm => ⟨by simpa [weight5] using hm, fun r hr => by cases hr⟩
  | r :: l, z, h, hz, hm => by
    unfold weight5 at hm
    have hfr := fineR ⟨h.1, h.2.1⟩
    have hb := w5l_bound hfr.1 hfr.2.1
    by_cases hzm : z ≤ most
    · simp only [hzm, decide_true, cond_true] at hm
      have hfl : ∀ q ∈ Row.R r 10, 1 ≤ w5l q := fun q hq => by
        have hfl := fineL (rowsFine_mem hfr.2.2.2 hq)
        have := w5l_bound hfl.1 hfl.2
        omega
      have g := weight5_ge (most := most) l (w5r most r z) h.2.2
      have a1 := sumTo_ge (most := most) (f := w5l) (Row.R r 10) (z + w5l r) (fun q hq => by have := hfl q hq; omega)
      obtain ⟨b1, b2⟩ := sumTo_all (most := most) (f := w5l) (Row.R r 10) (z + w5l r) hfl (show w5r most r z ≤ most from Int.le_trans g hm)
      obtain ⟨c1, c2⟩ := weight5_all l (w5r most r z) h.2.2 (by unfold w5r; omega) hm
      unfold w5r at c1 g
      refine ⟨by simp only [List.length_cons]; omega, fun q hq => ?_⟩
      rcases List.mem_cons.1 hq with rfl | hq
      · refine ⟨by omega, by omega, fun p hp => ?_⟩
        have hfl := fineL (rowsFine_mem hfr.2.2.2 hp)
        have := w5l_bound hfl.1 hfl.2
        have := b2 p hp
        omega
      · exact c2 q hq
    · rw [decide_eq_false hzm] at hm
      exact absurd hm hzm
theorem weight4_ge {most : Int} : ∀ (l : Rows) (z : Int), RowsFine kF l → z ≤ weight4 most l z
  | [], z, _ => Int.le_refl _
  | r :: l, z, h => by
    unfold weight4
    have hfr := fineF ⟨h.1, h.2.1⟩
    have hb := w4f_bound hfr.1 hfr.2.1 hfr.2.2.1 hfr.2.2.2.1
    have hfl : ∀ q ∈ Row.R r 3, 0 ≤ w4c q := fun q hq => (w4c_bound (fine_S (rowsFine_mem hfr.2.2.2.2 hq).2)).1
    have a1 := sumTo_ge (most := most) (f := w4c) (Row.R r 3) (z + w4f r) hfl
    have := weight4_ge (most := most) l (w4r most r z) h.2.2
    unfold w4r at *
    cases decide (z ≤ most) with
    | true => simp only [cond_true]; omega
    | false => simp only [cond_false]; omega
theorem weight4_all {most : Int} : ∀ (l : Rows) (z : Int), RowsFine kF l → 0 ≤ z → weight4 most l z ≤ most → z + l.length ≤ most ∧ ∀ r ∈ l, ((Row.R r 3).length : Int) ≤ most
  | [], z, _, _, hm => ⟨by simpa [weight4] using hm, fun r hr => by cases hr⟩
  | r :: l, z, h, hz, hm => by
    unfold weight4 at hm
    have hfr := fineF ⟨h.1, h.2.1⟩
    have hb := w4f_bound hfr.1 hfr.2.1 hfr.2.2.1 hfr.2.2.2.1
    by_cases hzm : z ≤ most
    · simp only [hzm, decide_true, cond_true] at hm
      have hfl : ∀ q ∈ Row.R r 3, 0 ≤ w4c q := fun q hq => (w4c_bound (fine_S (rowsFine_mem hfr.2.2.2.2 hq).2)).1
      have g := weight4_ge (most := most) l (w4r most r z) h.2.2
      have a1 := sumTo_ge (most := most) (f := w4c) (Row.R r 3) (z + w4f r) hfl
      obtain ⟨c1, c2⟩ := weight4_all l (w4r most r z) h.2.2 (by unfold w4r; omega) hm
      unfold w4r at c1 g
      refine ⟨by simp only [List.length_cons]; omega, fun q hq => ?_⟩
      rcases List.mem_cons.1 hq with rfl | hq
      · omega
      · exact c2 q hq
    · rw [decide_eq_false hzm] at hm
      exact absurd hm hzm
end Go.Den
