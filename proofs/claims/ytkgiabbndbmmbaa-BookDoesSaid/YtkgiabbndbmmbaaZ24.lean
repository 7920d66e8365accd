import Derived.Test.YtkgiabbndbmmbaaZ23
set_option linter.unusedVariables false
set_option linter.unusedSimpArgs false
set_option linter.unusedSectionVars false
namespace Go.Den
open Go.Proofs
section
variable {n : Nat} (hn : 1000 < n)
include hn
theorem refCompare_loop {j0 j8 : Int} {s1 s2 s3 s9 s10 s11 : ByteArray} {b4 b6 b12 b14 : Bool} {r5 r7 r13 r15 : Rows} (hs : SmallL r7) (hb : r7.length ≤ 500) : ∀ k q : Nat, q + k = r7.length → q ≤ r15.length → ∀ f c, k < f →
  z31_l7 n j0 s1 s2 s3 b4 r5 b6 r7 j8 s9 s10 s11 b12 r13 b14 r15 f c (q : Int) = some (bif c != 0 then c else ordB ((r7.drop q).map kr) ((r15.drop q).map kr), ()) := by
 have hne : ∀ (q : Nat) (f : Nat) (c : Int), c ≠ 0 → z31_l7 n j0 s1 s2 s3 b4 r5 b6 r7 j8 s9 s10 s11 b12 r13 b14 r15 (f + 1) c (q : Int) = some (c, ()) := fun q f c hc => by
  have h1 : (c == 0) = false := by simpa using hc
  have h2 : (c != 0) = true := by simpa using hc
  rw [z31_s7]
  simp only [h1, h2, cond_true, cond_false]
 intro k
 induction k with
 |zero =>
  intro q hq hq2 f c hf
  obtain ⟨f, rfl⟩ : ∃ z, f = z + 1 := ⟨f - 1, by omega⟩
  by_cases hc : c = 0
  ·subst hc
   rw [z31_s7, List.drop_eq_nil_of_le (show r7.length ≤ q by omega)]
   have h1 : ¬ ((q : Int) < (r7.length : Int)) := by omega
   have e0 : ((0 : Int) == 0) = true := rfl
   have e1 : ((0 : Int) != 0) = false := rfl
   simp only [e0, e1, h1, decide_false, cond_true, cond_false]
   by_cases h2 : q < r15.length
   ·rw [List.drop_eq_getElem_cons h2]
    have h3 : (r7.length : Int) < (r15.length : Int) := by omega
    simp only [h3, decide_true, cond_true, List.map_nil, List.map_cons, ordB]
   ·rw [List.drop_eq_nil_of_le (show r15.length ≤ q by omega)]
    have h3 : ¬ (r7.length : Int) < (r15.length : Int) := by omega
    have h4 : ¬ (r7.length : Int) > (r15.length : Int) := by omega
    simp only [h3, h4, decide_false, cond_false, List.map_nil, ordB]
  ·rw [hne q f c hc]
   have h2 : (c != 0) = true := by simpa using hc
   rw [h2]; rfl
 |succ k ih =>
  intro q hq hq2 f c hf
  obtain ⟨f, rfl⟩ : ∃ z, f = z + 1 := ⟨f - 1, by omega⟩
  by_cases hc : c = 0
  ·subst hc
   have hlt : q < r7.length := by omega
   have h1 : (q : Int) < (r7.length : Int) := by omega
   have h0 : (0 : Int) ≤ (q : Int) := by omega
   have e0 : ((0 : Int) == 0) = true := rfl
   have e1 : ((0 : Int) != 0) = false := rfl
   rw [z31_s7, wrap_succ (by unfold big; omega), List.drop_eq_getElem_cons hlt]
   by_cases h2 : q < r15.length
   ·have h3 : (q : Int) < (r15.length : Int) := by omega
    rw [List.drop_eq_getElem_cons h2]
    simp only [e0, e1, h1, h0, h3, decide_true, cond_true, cond_false, if_true, Int.toNat_natCast, getD_get hlt, getD_get h2, ref_order_rows hn (hs _ (List.getElem_mem hlt)).1, obind_some]
    rw [ih (q + 1) (by omega) (by omega) f _ (by omega)]
    simp only [List.map_cons, ordB]
   ·rw [List.drop_eq_nil_of_le (show r15.length ≤ q by omega)]
    have h3 : ¬ (q : Int) < (r15.length : Int) := by omega
    have h4 : ¬ (r7.length : Int) < (r15.length : Int) := by omega
    have h5 : (r7.length : Int) > (r15.length : Int) := by omega
    simp only [e0, e1, h1, h3, h4, h5, decide_true, decide_false, cond_true, cond_false, List.map_cons, List.map_nil, ordB]
  ·rw [hne q f c hc]
   have h2 : (c != 0) = true := by simpa using hc
   rw [h2]; rfl
theorem refCompare_q {j0 j8 : Int} {s1 s2 s3 s9 s10 s11 : ByteArray} {b4 b6 b12 b14 : Bool} {r5 r7 r13 r15 : Rows} (h5 : r5.length ≤ 500) (hs : SmallL r7) (hb : r7.length ≤ 500) :
  z31_v n j0 s1 s2 s3 b4 r5 b6 r7 j8 s9 s10 s11 b12 r13 b14 r15 = some (ordD (j0, kf s1 s2 s3 b4 r5, r7.map kr) (j8, kf s9 s10 s11 b12 r13, r15.map kr), ()) := by
 rw [z31_e]
 have h1 : z40_v n s1 s2 s3 b4 r5 s9 s10 s11 b12 r13 = some (ordK (kf s1 s2 s3 b4 r5) (kf s9 s10 s11 b12 r13), ()) := z40_q (by unfold big; omega) (by omega)
 have h2 := refCompare_loop hn (j0 := j0) (j8 := j8) (s1 := s1) (s2 := s2) (s3 := s3) (s9 := s9) (s10 := s10) (s11 := s11) (b4 := b4) (b6 := b6) (b12 := b12) (b14 := b14) (r5 := r5) (r13 := r13) (r15 := r15) hs hb r7.length 0 (by omega) (Nat.zero_le _) n (ordK (kf s1 s2 s3 b4 r5) (kf s9 s10 s11 b12 r13)) (by omega)
 rw [show ((0 : Nat) : Int) = 0 from rfl, List.drop_zero, List.drop_zero] at h2
 simp only [h1, obind_some, h2]
 unfold ordD cmpI
 cases decide (j0 < j8) with
 |true => rfl
 |false => cases decide (j0 > j8) <;> rfl
theorem refAdd_loop {j0 : Int} {s1 s2 s3 : ByteArray} {b4 b6 b8 : Bool} {r5 r7 r9 : Rows} (h9 : SmallDs r9) (hl : r9.length ≤ 900) : ∀ k q : Nat, q + k = r9.length → ∀ f, k < f →
  ∃ z rows, z24_l2 n j0 s1 s2 s3 b4 r5 b6 r7 b8 r9 f (q : Int) = some (!isO ordD (j0, kf s1 s2 s3 b4 r5, r7.map kr) ((r9.drop q).map dr), (((z, rows), ()), ())) ∧
   rows.map dr = (r9.take q).map dr ++ insO ordD (j0, kf s1 s2 s3 b4 r5, r7.map kr) ((r9.drop q).map dr) ∧ ∀ r ∈ rows, r ∈ r9 ∨ r = rowD j0 s1 s2 s3 b4 r5 b6 r7 := by
 intro k
 induction k with
 |zero =>
  intro q hq f hf
  obtain ⟨f, rfl⟩ : ∃ z, f = z + 1 := ⟨f - 1, by omega⟩
  have hq' : q = r9.length := by omega
  subst hq'
  rw [z24_s2, List.drop_length]
  have h1 : ¬ ((r9.length : Int) < (r9.length : Int)) := by omega
  have h0 : (0 : Int) ≤ (r9.length : Int) := by omega
  have c1' : r9.length * 104 ≤ 140737488355328 := by omega
  have c2 : (r9.length + 1) * 104 ≤ 140737488355328 := by omega
  simp only [h1, decide_false, cond_false, h0, if_true, Int.le_refl, Int.toNat_natCast, List.take_length, List.drop_zero, c1', appX, List.nil_append, List.length_cons, List.length_nil, Nat.zero_add, c2, List.length_append, List.drop_length, List.append_nil, Nat.add_zero]
  refine ⟨_, _, rfl, ?_, fun r hr => ?_⟩
  ·rw [List.map_append]; rfl
  ·rcases List.mem_append.1 hr with h | h
   ·exact .inl h
   ·exact .inr (List.mem_singleton.1 h)
 |succ k ih =>
  intro q hq f hf
  obtain ⟨f, rfl⟩ : ∃ z, f = z + 1 := ⟨f - 1, by omega⟩
  have hlt : q < r9.length := by omega
  have h1 : (q : Int) < (r9.length : Int) := by omega
  have h0 : (0 : Int) ≤ (q : Int) := by omega
  have hle : (q : Int) ≤ (r9.length : Int) := by omega
  have hs := h9 _ (List.getElem_mem hlt)
  have ho : z31_v n (Row.I r9[q] 0) (Row.S r9[q] 1) (Row.S r9[q] 2) (Row.S r9[q] 3) (Row.N r9[q] 4) (Row.R r9[q] 4) (Row.N r9[q] 5) (Row.R r9[q] 5) j0 s1 s2 s3 b4 r5 b6 r7 = some (ordD (dr r9[q]) (j0, kf s1 s2 s3 b4 r5, r7.map kr), ()) := refCompare_q hn hs.1 hs.2.2.1 hs.2.2.2.1
  rw [z24_s2, wrap_succ (show q < big by unfold big; omega)]
  simp only [h1, h0, decide_true, cond_true, if_true, Int.toNat_natCast, getD_get hlt, ho, obind_some]
  rw [List.drop_eq_getElem_cons hlt, List.map_cons]
  unfold isO insO
  by_cases hc : ordD (dr r9[q]) (j0, kf s1 s2 s3 b4 r5, r7.map kr) < 0
  ·simp only [hc, decide_true, cond_true]
   obtain ⟨z, rows, e1, e2, e3⟩ := ih (q + 1) (by omega) f (by omega)
   refine ⟨z, rows, e1, ?_, e3⟩
   rw [e2, List.take_succ_eq_append_getElem hlt]
   simp only [List.map_append, List.map_cons, List.map_nil, List.append_assoc, List.singleton_append]
  ·simp only [hc, decide_false, cond_false]
   cases hz : ordD (dr r9[q]) (j0, kf s1 s2 s3 b4 r5, r7.map kr) == 0 with
   |true =>
    simp only [cond_true]
    refine ⟨_, _, rfl, ?_, fun r hr => .inl hr⟩
    rw [← List.map_cons, ← List.drop_eq_getElem_cons hlt, ← List.map_append, List.take_append_drop]
   |false =>
    have t1 : (r9.take q).length = q := by rw [List.length_take]; omega
    have t2 : (r9.drop q).length = r9.length - q := List.length_drop
    have c1' : q * 104 ≤ 140737488355328 := by omega
    have c2 : (q + 1) * 104 ≤ 140737488355328 := by omega
    have c3 : (q + 1 + (r9.length - q)) * 104 ≤ 140737488355328 := by omega
    simp only [cond_false, hle, if_true, List.drop_zero, t1, c1', appX, List.nil_append, List.length_cons, List.length_nil, Nat.zero_add, c2, Int.le_refl, List.length_append, List.take_length, t2, c3]
    refine ⟨_, _, rfl, ?_, fun r hr => ?_⟩
    ·rw [List.drop_eq_getElem_cons hlt]
     simp only [List.map_append, List.map_cons, List.map_nil, List.append_assoc, List.singleton_append]
     rfl
    ·rcases List.mem_append.1 hr with hr | hr
     ·rcases List.mem_append.1 hr with hr | hr
      ·exact .inl (List.mem_of_mem_take hr)
      ·exact .inr (List.mem_singleton.1 hr)
     ·exact .inl (List.mem_of_mem_drop hr)
theorem refAdd_q {j0 : Int} {s1 s2 s3 : ByteArray} {b4 b6 b8 : Bool} {r5 r7 r9 : Rows} (h5 : r5.length ≤ 500) (hw : b4 = true → r5 = []) (hs : SmallL r7) (hb : r7.length ≤ 500) (hw7 : b6 = true → r7 = [])
  (h9 : SmallDs r9) (hl9 : r9.length ≤ 900) :
  ∃ bz rows, z24_v n j0 s1 s2 s3 b4 r5 b6 r7 b8 r9 = some (!isO ordD (j0, kf s1 s2 s3 b4 r5, r7.map kr) (r9.map dr), (((bz, rows), ()), ())) ∧ rows.map dr = insO ordD (j0, kf s1 s2 s3 b4 r5, r7.map kr) (r9.map dr) ∧ SmallDs rows := by
 rw [z24_e]
 obtain ⟨z, rows, e1, e2, e3⟩ := refAdd_loop hn (j0 := j0) (s1 := s1) (s2 := s2) (s3 := s3) (b4 := b4) (b6 := b6) (b8 := b8) (r5 := r5) (r7 := r7) h9 hl9 r9.length 0 (by omega) n (by omega)
 refine ⟨z, rows, by simpa using e1, by simpa using e2, fun r hr => ?_⟩
 rcases e3 r hr with h | rfl
 ·exact h9 r h
 ·exact ⟨h5, hw, hs, hb, hw7⟩
end
end Go.Den
