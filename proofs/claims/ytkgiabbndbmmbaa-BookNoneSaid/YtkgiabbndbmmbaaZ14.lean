import Derived.Test.YtkgiabbndbmmbaaZ05
import Derived.Test.YtkgiabbndbmmbaaZ13
set_option linter.unusedVariables false
set_option linter.unusedSimpArgs false
set_option linter.unusedSectionVars false
namespace Go.Den
open Go.Proofs
theorem z41_q (n : Nat) (a b : ByteArray) : z41_v n a b = some (texts a b, ()) := by
 rw [z41_e]
 have h : ∀ s : ByteArray, z46_v n s = some (false, ()) := fun s => by rw [z46_e]; simp
 simp only [h, obind_some, cond_false]
 unfold texts less
 cases Op.bytesLess (ByteArray.toList a) (ByteArray.toList b) with
 |true => rfl
 |false => cases a == b <;> rfl
def cmpI (a b : Int) : Int := bif decide (a < b) then -1 else bif decide (a > b) then 1 else 0
theorem cmp_CompareI_q (n : Nat) (a b : Int) : z32_v n a b = some (cmpI a b, ()) := by
 rw [z32_e]
 have h : ∀ s : Int, z37_v n s = some (false, ()) := fun s => by rw [z37_e]; simp
 simp only [h, obind_some, cond_false]
 unfold cmpI
 cases decide (a < b) <;> cases decide (a > b) <;> rfl
def firstNZ : Rows → Int
 |[] => 0
 |r :: l => bif Row.I r 0 != 0 then Row.I r 0 else firstNZ l
theorem z51_loop {n : Nat} {b : Bool} {r1 : Rows} (hb : r1.length < big) : ∀ k q : Nat, q + k = r1.length → ∀ f, k < f → z51_l3 n b r1 f (q : Int) = some (firstNZ (r1.drop q), ()) := by
 intro k
 induction k with
 |zero =>
  intro q hq f hf
  obtain ⟨f, rfl⟩ : ∃ z, f = z + 1 := ⟨f - 1, by omega⟩
  rw [z51_s3, List.drop_eq_nil_of_le (by omega)]
  have h1 : ¬ ((q : Int) < (r1.length : Int)) := by omega
  simp only [h1, decide_false, cond_false, firstNZ]
 |succ k ih =>
  intro q hq f hf
  obtain ⟨f, rfl⟩ : ∃ z, f = z + 1 := ⟨f - 1, by omega⟩
  have hlt : q < r1.length := by omega
  have h1 : (q : Int) < (r1.length : Int) := by omega
  have h0 : (0 : Int) ≤ (q : Int) := by omega
  rw [z51_s3, List.drop_eq_getElem_cons hlt, wrap_succ (by omega), ih (q + 1) (by omega) f (by omega)]
  simp only [h1, h0, decide_true, cond_true, if_true, Int.toNat_natCast, getD_get hlt, firstNZ]
  cases Row.I r1[q] 0 != 0 <;> rfl
theorem z51_q {n : Nat} {b : Bool} {r1 : Rows} (hb : r1.length < big) (hn : r1.length < n) : z51_v n b r1 = some (firstNZ r1, ()) := by
 rw [z51_e]
 exact z51_loop hb r1.length 0 (by omega) n hn
theorem z39_q {n : Nat} (hn : 10 < n) (b0 b3 : Bool) (j1 j4 : Int) (s2 s5 : ByteArray) : z39_v n b0 j1 s2 b3 j4 s5 = some (cmpC (b0, j1, s2) (b3, j4, s5), ()) := by
 rw [z39_e]
 simp only [cmp_CompareI_q, z41_q, obind_some]
 rw [z51_q (by unfold big; simp) (by simp; omega)]
 simp only [obind_some]
 have e : firstNZ [[DV.val (Value.int IntKind.i64 (cmpI j1 j4))], [DV.val (Value.int IntKind.i64 (texts s2 s5))]] = bif cmpI j1 j4 != 0 then cmpI j1 j4 else bif texts s2 s5 != 0 then texts s2 s5 else 0 := rfl
 rw [e]
 have ht : (bif texts s2 s5 != 0 then texts s2 s5 else 0) = texts s2 s5 := by
  by_cases h : texts s2 s5 = 0
  ·rw [h]; rfl
  ·have : (texts s2 s5 != 0) = true := by simpa using h
   rw [this]; rfl
 rw [ht]
 unfold cmpC cmpI
 cases b0 <;> cases b3 <;> cases decide (j1 < j4) <;> cases decide (j1 > j4) <;> rfl
theorem compareFunc_loop {n : Nat} {b0 b2 : Bool} {r1 r3 : Rows} (hn : 10 < n) (hb : r1.length < big) : ∀ k q : Nat, q + k = r1.length → q ≤ r3.length → ∀ f, k < f → z7_l2 n b0 r1 b2 r3 f (q : Int) = some (ordA (r1.drop q) (r3.drop q), ()) := by
 intro k
 induction k with
 |zero =>
  intro q hq hq2 f hf
  obtain ⟨f, rfl⟩ : ∃ z, f = z + 1 := ⟨f - 1, by omega⟩
  rw [z7_s2, List.drop_eq_nil_of_le (by omega)]
  have h1 : ¬ ((q : Int) < (r1.length : Int)) := by omega
  simp only [h1, decide_false, cond_false]
  by_cases h2 : q < r3.length
  ·rw [List.drop_eq_getElem_cons h2]
   have h3 : (r1.length : Int) < (r3.length : Int) := by omega
   simp only [h3, decide_true, cond_true, ordA]
  ·rw [List.drop_eq_nil_of_le (by omega)]
   have h3 : ¬ (r1.length : Int) < (r3.length : Int) := by omega
   simp only [h3, decide_false, cond_false, ordA]
 |succ k ih =>
  intro q hq hq2 f hf
  obtain ⟨f, rfl⟩ : ∃ z, f = z + 1 := ⟨f - 1, by omega⟩
  have hlt : q < r1.length := by omega
  have h1 : (q : Int) < (r1.length : Int) := by omega
  have h0 : (0 : Int) ≤ (q : Int) := by omega
  rw [z7_s2, List.drop_eq_getElem_cons hlt, wrap_succ (by omega)]
  by_cases h2 : q < r3.length
  ·rw [List.drop_eq_getElem_cons h2, ih (q + 1) (by omega) (by omega) f (by omega)]
   have h3 : (q : Int) < (r3.length : Int) := by omega
   have h4 : ¬ (q : Int) ≥ (r3.length : Int) := by omega
   simp only [h1, h3, h4, h0, decide_true, decide_false, cond_true, cond_false, if_true, Int.toNat_natCast, getD_get hlt, getD_get h2, z39_q hn, obind_some, ordA, cnAt]
   cases cmpC (Row.B r1[q] 0, Row.I r1[q] 1, Row.S r1[q] 2) (Row.B r3[q] 0, Row.I r3[q] 1, Row.S r3[q] 2) != 0 <;> rfl
  ·rw [List.drop_eq_nil_of_le (show r3.length ≤ q by omega)]
   have h4 : (q : Int) ≥ (r3.length : Int) := by omega
   simp only [h1, h0, h4, decide_true, cond_true, if_true, ordA]
theorem z42_q {n : Nat} {s0 s1 s2 s5 s6 s7 : ByteArray} {b3 b8 : Bool} {r4 r9 : Rows} (hb : r4.length < big) (hn : r4.length < n) (hn1 : 10 < n) : z42_v n s0 s1 s2 b3 r4 s5 s6 s7 b8 r9 = some (ordF (s0, s1, s2, r4) (s5, s6, s7, r9), ()) := by
 rw [z42_e, z7_e]
 have hl := compareFunc_loop (n := n) (b0 := b3) (b2 := b8) (r3 := r9) hn1 hb r4.length 0 (by omega) (Nat.zero_le _) n hn
 rw [show ((0 : Nat) : Int) = 0 from rfl, List.drop_zero, List.drop_zero] at hl
 simp only [z41_q, hl, obind_some]
 rw [z51_q (by unfold big; simp) (by simp; omega)]
 simp only [obind_some]
 have e : ∀ a b c d : Int, firstNZ [[DV.val (Value.int IntKind.i64 a)], [DV.val (Value.int IntKind.i64 b)], [DV.val (Value.int IntKind.i64 c)], [DV.val (Value.int IntKind.i64 d)]] = bif a != 0 then a else bif b != 0 then b else bif c != 0 then c else bif d != 0 then d else 0 := fun _ _ _ _ => rfl
 rw [e]
 have hd : ∀ d : Int, (bif d != 0 then d else 0) = d := by
  intro d
  by_cases h : d = 0
  ·rw [h]; rfl
  ·have : (d != 0) = true := by simpa using h
   rw [this]; rfl
 rw [hd]
 have ht : ∀ (a b : ByteArray) (x : Int), (bif texts a b != 0 then texts a b else x) = bif !(a == b) then texts a b else x := by
  intro a b x
  by_cases h : a = b
  ·subst h
   rw [texts_zero.2 rfl]; simp
  ·have h1 : (texts a b != 0) = true := by
    have : texts a b ≠ 0 := fun h' => h (texts_zero.1 h')
    simpa using this
   have h2 : (a == b) = false := by simpa using h
   rw [h1, h2]; rfl
 rw [ht, ht, ht]
 rfl
end Go.Den
