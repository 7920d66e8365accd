import Derived.Test.YtkgiabbndbmmbaaZ21
set_option linter.unusedVariables false
set_option linter.unusedSimpArgs false
set_option linter.unusedSectionVars false
namespace Go.Den
open Go.Proofs
def SmallD (r : Row) : Prop := (Row.R r 4).length ≤ 500 ∧ (Row.N r 4 = true → Row.R r 4 = []) ∧ SmallL (Row.R r 5) ∧ (Row.R r 5).length ≤ 500 ∧ (Row.N r 5 = true → Row.R r 5 = [])
def SmallDs (l : Rows) : Prop := ∀ r ∈ l, SmallD r
theorem mid_eq {a b : Nat} (ha : a ≤ 1000000) (hb : b ≤ 1000000) : IntKind.wrap IntKind.i64 (Int.fdiv (IntKind.wrap IntKind.u64 (IntKind.wrap IntKind.i64 ((a : Int) + (b : Int)))) (2 ^ 1)) = (((a + b) / 2 : Nat) : Int) := by
 have e1 : IntKind.wrap IntKind.i64 ((a : Int) + (b : Int)) = ((a + b : Nat) : Int) := by rw [IntKind.wrap_i64]; omega
 rw [e1]
 have e2 : IntKind.wrap IntKind.u64 ((a + b : Nat) : Int) = ((a + b : Nat) : Int) := by
  simp only [IntKind.wrap, IntKind.bits, IntKind.signed]; simp; omega
 rw [e2]
 have e3 : Int.fdiv ((a + b : Nat) : Int) (2 ^ 1) = (((a + b) / 2 : Nat) : Int) := by
  have : ((2 : Int) ^ 1) = ((2 : Nat) : Int) := rfl
  rw [this]; exact (Int.ofNat_fdiv _ _).symm
 rw [e3, IntKind.wrap_i64]
 omega
section
variable {n : Nat} (hn : 1000 < n)
include hn
theorem compareB_loop {b0 b2 : Bool} {r1 r3 : Rows} (hs : SmallL r1) (hb : r1.length ≤ 500) : ∀ k q : Nat, q + k = r1.length → q ≤ r3.length → ∀ f, k < f → z4_l2 n b0 r1 b2 r3 f (q : Int) = some (ordB ((r1.drop q).map kr) ((r3.drop q).map kr), ()) := by
 intro k
 induction k with
 |zero =>
  intro q hq hq2 f hf
  obtain ⟨f, rfl⟩ : ∃ z, f = z + 1 := ⟨f - 1, by omega⟩
  rw [z4_s2, List.drop_eq_nil_of_le (by omega)]
  have h1 : ¬ ((q : Int) < (r1.length : Int)) := by omega
  simp only [h1, decide_false, cond_false]
  by_cases h2 : q < r3.length
  ·rw [List.drop_eq_getElem_cons h2]
   have h3 : (r1.length : Int) < (r3.length : Int) := by omega
   simp only [h3, decide_true, cond_true, List.map_nil, List.map_cons, ordB]
  ·rw [List.drop_eq_nil_of_le (by omega)]
   have h3 : ¬ (r1.length : Int) < (r3.length : Int) := by omega
   simp only [h3, decide_false, cond_false, List.map_nil, ordB]
 |succ k ih =>
  intro q hq hq2 f hf
  obtain ⟨f, rfl⟩ : ∃ z, f = z + 1 := ⟨f - 1, by omega⟩
  have hlt : q < r1.length := by omega
  have h1 : (q : Int) < (r1.length : Int) := by omega
  have h0 : (0 : Int) ≤ (q : Int) := by omega
  rw [z4_s2, List.drop_eq_getElem_cons hlt, wrap_succ (by unfold big; omega)]
  by_cases h2 : q < r3.length
  ·rw [List.drop_eq_getElem_cons h2, ih (q + 1) (by omega) (by omega) f (by omega)]
   have h3 : (q : Int) < (r3.length : Int) := by omega
   have h4 : ¬ (q : Int) ≥ (r3.length : Int) := by omega
   simp only [h1, h3, h4, h0, decide_true, decide_false, cond_true, cond_false, if_true, Int.toNat_natCast, getD_get hlt, getD_get h2, order_rows hn (hs _ (List.getElem_mem hlt)).1, obind_some, List.map_cons, ordB]
   cases ordK (kr r1[q]) (kr r3[q]) != 0 <;> rfl
  ·rw [List.drop_eq_nil_of_le (show r3.length ≤ q by omega)]
   have h4 : (q : Int) ≥ (r3.length : Int) := by omega
   simp only [h1, h0, h4, decide_true, cond_true, if_true, List.map_cons, List.map_nil, ordB]
theorem compareB_q {b0 b2 : Bool} {r1 r3 : Rows} (hs : SmallL r1) (hb : r1.length ≤ 500) : z4_v n b0 r1 b2 r3 = some (ordB (r1.map kr) (r3.map kr), ()) := by
 rw [z4_e]
 have := compareB_loop (n := n) hn (b0 := b0) (b2 := b2) (r1 := r1) (r3 := r3) hs hb r1.length 0 (by omega) (Nat.zero_le _) n (by omega)
 simpa using this
theorem z45_q {j0 j8 : Int} {s1 s2 s3 s9 s10 s11 : ByteArray} {b4 b6 b12 b14 : Bool} {r5 r7 r13 r15 : Rows} (h5 : r5.length ≤ 500) (hs : SmallL r7) (hb : r7.length ≤ 500) :
  z45_v n j0 s1 s2 s3 b4 r5 b6 r7 j8 s9 s10 s11 b12 r13 b14 r15 = some (ordD (j0, kf s1 s2 s3 b4 r5, r7.map kr) (j8, kf s9 s10 s11 b12 r13, r15.map kr), ()) := by
 rw [z45_e]
 have h1 : z46_v n s1 s2 s3 b4 r5 s9 s10 s11 b12 r13 = some (ordK (kf s1 s2 s3 b4 r5) (kf s9 s10 s11 b12 r13), ()) := z46_q (by unfold big; omega) (by omega) (by omega)
 simp only [cmp_CompareI_q, h1, compareB_q hn hs hb, obind_some]
 rw [z56_q (by unfold big; simp) (by simp; omega)]
 simp only [obind_some]
 have e : ∀ a b c : Int, firstNZ [[DV.val (Value.int IntKind.i64 a)], [DV.val (Value.int IntKind.i64 b)], [DV.val (Value.int IntKind.i64 c)]] = bif a != 0 then a else bif b != 0 then b else bif c != 0 then c else 0 := fun _ _ _ => rfl
 rw [e]
 have hd : ∀ d : Int, (bif d != 0 then d else 0) = d := by
  intro d
  by_cases h : d = 0
  ·rw [h]; rfl
  ·have : (d != 0) = true := by simpa using h
   rw [this]; rfl
 rw [hd]
 rfl
theorem bsF_loop {b0 b5 : Bool} {r1 r6 : Rows} {s2 s3 s4 : ByteArray} (hs : SmallL r1) (hl : r1.length ≤ 2000) (ha : Asc ordK (r1.map kr)) :
  ∀ d lo hi : Nat, hi = lo + d → hi ≤ r1.length → (∀ j (h : j < r1.length), j < lo → ordK (kr r1[j]) (kf s2 s3 s4 b5 r6) < 0) → (∀ j (h : j < r1.length), hi ≤ j → ¬ ordK (kr r1[j]) (kf s2 s3 s4 b5 r6) < 0) → ∀ f, d < f →
  z2_l3 n b0 r1 s2 s3 s4 b5 r6 f (lo : Int) (hi : Int) = some (((cntO ordK (kf s2 s3 s4 b5 r6) (r1.map kr) : Int), (isO ordK (kf s2 s3 s4 b5 r6) (r1.map kr), ())), ()) := by
 intro d
 induction d using Nat.strongRecOn with
 |_ d ih =>
  intro lo hi hd hhi h1 h2 f hf
  obtain ⟨f, rfl⟩ : ∃ z, f = z + 1 := ⟨f - 1, by omega⟩
  rw [z2_s3]
  have hcmp : ∀ j (h : j < r1.length), z46_v n (Row.S r1[j] 0) (Row.S r1[j] 1) (Row.S r1[j] 2) (Row.N r1[j] 3) (Row.R r1[j] 3) s2 s3 s4 b5 r6 = some (ordK (kr r1[j]) (kf s2 s3 s4 b5 r6), ()) := fun j h => by
   have := (hs _ (List.getElem_mem h)).1
   exact z46_q (by unfold big; omega) (by omega) (by omega)
  by_cases hlt : lo < hi
  ·have c1 : (lo : Int) < (hi : Int) := by omega
   rw [mid_eq (by omega) (by omega)]
   have hm : (lo + hi) / 2 < r1.length := by omega
   have c2 : (0 : Int) ≤ (((lo + hi) / 2 : Nat) : Int) := by omega
   have c3 : (((lo + hi) / 2 : Nat) : Int) < (r1.length : Int) := by omega
   simp only [c1, c2, c3, decide_true, cond_true, if_true, Int.toNat_natCast, getD_get hm, hcmp _ hm, obind_some]
   rw [wrap_succ (by unfold big; omega)]
   by_cases hc : ordK (kr r1[(lo + hi) / 2]) (kf s2 s3 s4 b5 r6) < 0
   ·simp only [hc, decide_true, cond_true]
    refine ih (hi - ((lo + hi) / 2 + 1)) (by omega) _ hi (by omega) hhi (fun j hj hji => ?_) h2 f (by omega)
    have := asc_below ordK_ord ha (f := kf s2 s3 s4 b5 r6) (m := (lo + hi) / 2) (by simpa using hm) (by simpa using hc) (j := j) (by simpa using hj) (by omega)
    simpa using this
   ·simp only [hc, decide_false, cond_false]
    refine ih ((lo + hi) / 2 - lo) (by omega) lo _ (by omega) (by omega) h1 (fun j hj hji => ?_) f (by omega)
    have := asc_above ordK_ord ha (f := kf s2 s3 s4 b5 r6) (m := (lo + hi) / 2) (by simpa using hm) (by simpa using hc) (j := j) (by simpa using hj) (by omega)
    simpa using this
  ·have : lo = hi := by omega
   subst this
   obtain ⟨k1, k2⟩ := cnt_at (c := ordK) (f := kf s2 s3 s4 b5 r6) (l := r1.map kr) (i := lo) (by simpa using hhi) (fun j hj hji => by simpa using h1 j (by simpa using hj) hji) (fun j hj hji => by simpa using h2 j (by simpa using hj) hji)
   have c1 : ¬ (lo : Int) < (lo : Int) := by omega
   rw [k1, k2]
   by_cases hi2 : lo < r1.length
   ·have c2 : (lo : Int) < (r1.length : Int) := by omega
    have c3 : (0 : Int) ≤ (lo : Int) := by omega
    simp only [c1, c2, c3, decide_true, decide_false, cond_true, cond_false, if_true, Int.toNat_natCast, getD_get hi2, hcmp _ hi2, obind_some]
    rw [dif_pos (by simpa using hi2)]
    simp
   ·have c2 : ¬ (lo : Int) < (r1.length : Int) := by omega
    simp only [c1, c2, decide_false, cond_false]
    rw [dif_neg (by simpa using hi2)]
theorem bsF_q {b0 b5 : Bool} {r1 r6 : Rows} {s2 s3 s4 : ByteArray} (hs : SmallL r1) (hl : r1.length ≤ 1000) (ha : Asc ordK (r1.map kr)) :
  z2_v n b0 r1 s2 s3 s4 b5 r6 = some (((cntO ordK (kf s2 s3 s4 b5 r6) (r1.map kr) : Int), (isO ordK (kf s2 s3 s4 b5 r6) (r1.map kr), ())), ()) := by
 rw [z2_e]
 exact bsF_loop hn hs (by omega) ha r1.length 0 r1.length (by omega) (Nat.le_refl _) (fun j hj h => by omega) (fun j hj h => by omega) n (by omega)
theorem bsD_loop {b0 b6 b8 : Bool} {r1 r7 r9 : Rows} {j2 : Int} {s3 s4 s5 : ByteArray} (hs : SmallDs r1) (hl : r1.length ≤ 2000) (ha : Asc ordD (r1.map dr)) :
  ∀ d lo hi : Nat, hi = lo + d → hi ≤ r1.length → (∀ j (h : j < r1.length), j < lo → ordD (dr r1[j]) (j2, kf s3 s4 s5 b6 r7, r9.map kr) < 0) → (∀ j (h : j < r1.length), hi ≤ j → ¬ ordD (dr r1[j]) (j2, kf s3 s4 s5 b6 r7, r9.map kr) < 0) → ∀ f, d < f →
  z0_l3 n b0 r1 j2 s3 s4 s5 b6 r7 b8 r9 f (lo : Int) (hi : Int) = some (((cntO ordD (j2, kf s3 s4 s5 b6 r7, r9.map kr) (r1.map dr) : Int), (isO ordD (j2, kf s3 s4 s5 b6 r7, r9.map kr) (r1.map dr), ())), ()) := by
 intro d
 induction d using Nat.strongRecOn with
 |_ d ih =>
  intro lo hi hd hhi h1 h2 f hf
  obtain ⟨f, rfl⟩ : ∃ z, f = z + 1 := ⟨f - 1, by omega⟩
  rw [z0_s3]
  have hcmp : ∀ j (h : j < r1.length), z45_v n (Row.I r1[j] 0) (Row.S r1[j] 1) (Row.S r1[j] 2) (Row.S r1[j] 3) (Row.N r1[j] 4) (Row.R r1[j] 4) (Row.N r1[j] 5) (Row.R r1[j] 5) j2 s3 s4 s5 b6 r7 b8 r9 = some (ordD (dr r1[j]) (j2, kf s3 s4 s5 b6 r7, r9.map kr), ()) := fun j h => by
   have := hs _ (List.getElem_mem h)
   exact z45_q hn this.1 this.2.2.1 this.2.2.2.1
  by_cases hlt : lo < hi
  ·have c1 : (lo : Int) < (hi : Int) := by omega
   rw [mid_eq (by omega) (by omega)]
   have hm : (lo + hi) / 2 < r1.length := by omega
   have c2 : (0 : Int) ≤ (((lo + hi) / 2 : Nat) : Int) := by omega
   have c3 : (((lo + hi) / 2 : Nat) : Int) < (r1.length : Int) := by omega
   simp only [c1, c2, c3, decide_true, cond_true, if_true, Int.toNat_natCast, getD_get hm, hcmp _ hm, obind_some]
   rw [wrap_succ (by unfold big; omega)]
   by_cases hc : ordD (dr r1[(lo + hi) / 2]) (j2, kf s3 s4 s5 b6 r7, r9.map kr) < 0
   ·simp only [hc, decide_true, cond_true]
    refine ih (hi - ((lo + hi) / 2 + 1)) (by omega) _ hi (by omega) hhi (fun j hj hji => ?_) h2 f (by omega)
    have := asc_below ordD_ord ha (f := (j2, kf s3 s4 s5 b6 r7, r9.map kr)) (m := (lo + hi) / 2) (by simpa using hm) (by simpa using hc) (j := j) (by simpa using hj) (by omega)
    simpa using this
   ·simp only [hc, decide_false, cond_false]
    refine ih ((lo + hi) / 2 - lo) (by omega) lo _ (by omega) (by omega) h1 (fun j hj hji => ?_) f (by omega)
    have := asc_above ordD_ord ha (f := (j2, kf s3 s4 s5 b6 r7, r9.map kr)) (m := (lo + hi) / 2) (by simpa using hm) (by simpa using hc) (j := j) (by simpa using hj) (by omega)
    simpa using this
  ·have : lo = hi := by omega
   subst this
   obtain ⟨k1, k2⟩ := cnt_at (c := ordD) (f := (j2, kf s3 s4 s5 b6 r7, r9.map kr)) (l := r1.map dr) (i := lo) (by simpa using hhi) (fun j hj hji => by simpa using h1 j (by simpa using hj) hji) (fun j hj hji => by simpa using h2 j (by simpa using hj) hji)
   have c1 : ¬ (lo : Int) < (lo : Int) := by omega
   rw [k1, k2]
   by_cases hi2 : lo < r1.length
   ·have c2 : (lo : Int) < (r1.length : Int) := by omega
    have c3 : (0 : Int) ≤ (lo : Int) := by omega
    simp only [c1, c2, c3, decide_true, decide_false, cond_true, cond_false, if_true, Int.toNat_natCast, getD_get hi2, hcmp _ hi2, obind_some]
    rw [dif_pos (by simpa using hi2)]
    simp
   ·have c2 : ¬ (lo : Int) < (r1.length : Int) := by omega
    simp only [c1, c2, decide_false, cond_false]
    rw [dif_neg (by simpa using hi2)]
theorem bsD_q {b0 b6 b8 : Bool} {r1 r7 r9 : Rows} {j2 : Int} {s3 s4 s5 : ByteArray} (hs : SmallDs r1) (hl : r1.length ≤ 1000) (ha : Asc ordD (r1.map dr)) :
  z0_v n b0 r1 j2 s3 s4 s5 b6 r7 b8 r9 = some (((cntO ordD (j2, kf s3 s4 s5 b6 r7, r9.map kr) (r1.map dr) : Int), (isO ordD (j2, kf s3 s4 s5 b6 r7, r9.map kr) (r1.map dr), ())), ()) := by
 rw [z0_e]
 exact bsD_loop hn hs (by omega) ha r1.length 0 r1.length (by omega) (Nat.le_refl _) (fun j hj h => by omega) (fun j hj h => by omega) n (by omega)
end
end Go.Den
