import Derived.Test.YtkgiabbndbmmbaaZ21
set_option linter.unusedVariables false
set_option linter.unusedSimpArgs false
set_option linter.unusedSectionVars false
namespace Go.Den
open Go.Proofs
def SmallD (r : Row) : Prop := (Row.R r 4).length ≤ 500 ∧ (Row.N r 4 = true → Row.R r 4 = []) ∧ SmallL (Row.R r 5) ∧ (Row.R r 5).length ≤ 500 ∧ (Row.N r 5 = true → Row.R r 5 = [])
def SmallDs (l : Rows) : Prop := ∀ r ∈ l, SmallD r
theorem mid_eq {a b : Nat} (ha : a ≤ 1000000) (hb : b ≤ 1000000) : IntKind.wrap IntKind.i64 (Int.fdiv (IntKind.wrap IntKind.u64 (IntKind.wrap IntKind.i64 ((a : Int) + (b : Int)))) (2 ^ 1)) = (((a + b) / 2 : Nat) : Int) := by
 have e1 : IntKind.wrap IntKind.i64 ((a : Int) + (b : Int)) = ((a + b : Nat) : Int) := by rw [IntKind.wrap_i64]; omega
 rw [e1]
 have e2 : IntKind.wrap IntKind.u64 ((a + b : Nat) : Int) = ((a + b : Nat) : Int) := by
  simp only [IntKind.wrap, IntKind.bits, IntKind.signed]; simp; omega
 rw [e2]
 have e3 : Int.fdiv ((a + b : Nat) : Int) (2 ^ 1) = (((a + b) / 2 : Nat) : Int) := by
  have : ((2 : Int) ^ 1) = ((2 : Nat) : Int) := rfl
  rw [this]; exact (Int.ofNat_fdiv _ _).symm
 rw [e3, IntKind.wrap_i64]
 omega
section
variable {n : Nat} (hn : 1000 < n)
include hn
theorem bsF_loop {b0 b5 : Bool} {r1 r6 : Rows} {s2 s3 s4 : ByteArray} (hs : SmallL r1) (hl : r1.length ≤ 2000) (ha : Asc ordK (r1.map kr)) :
  ∀ d lo hi : Nat, hi = lo + d → hi ≤ r1.length → (∀ j (h : j < r1.length), j < lo → ordK (kr r1[j]) (kf s2 s3 s4 b5 r6) < 0) → (∀ j (h : j < r1.length), hi ≤ j → ¬ ordK (kr r1[j]) (kf s2 s3 s4 b5 r6) < 0) → ∀ f, d < f →
  z4_l3 n b0 r1 s2 s3 s4 b5 r6 f (lo : Int) (hi : Int) = some (((cntO ordK (kf s2 s3 s4 b5 r6) (r1.map kr) : Int), (isO ordK (kf s2 s3 s4 b5 r6) (r1.map kr), ())), ()) := by
 intro d
 induction d using Nat.strongRecOn with
 |_ d ih =>
  intro lo hi hd hhi h1 h2 f hf
  obtain ⟨f, rfl⟩ : ∃ z, f = z + 1 := ⟨f - 1, by omega⟩
  rw [z4_s3]
  have hcmp : ∀ j (h : j < r1.length), z42_v n (Row.S r1[j] 0) (Row.S r1[j] 1) (Row.S r1[j] 2) (Row.N r1[j] 3) (Row.R r1[j] 3) s2 s3 s4 b5 r6 = some (ordK (kr r1[j]) (kf s2 s3 s4 b5 r6), ()) := fun j h => by
   have := (hs _ (List.getElem_mem h)).1
   exact z42_q (by unfold big; omega) (by omega) (by omega)
  by_cases hlt : lo < hi
  ·have c1 : (lo : Int) < (hi : Int) := by omega
   rw [mid_eq (by omega) (by omega)]
   have hm : (lo + hi) / 2 < r1.length := by omega
   have c2 : (0 : Int) ≤ (((lo + hi) / 2 : Nat) : Int) := by omega
   have c3 : (((lo + hi) / 2 : Nat) : Int) < (r1.length : Int) := by omega
   simp only [c1, c2, c3, decide_true, cond_true, if_true, Int.toNat_natCast, getD_get hm, hcmp _ hm, obind_some]
   rw [wrap_succ (by unfold big; omega)]
   by_cases hc : ordK (kr r1[(lo + hi) / 2]) (kf s2 s3 s4 b5 r6) < 0
   ·simp only [hc, decide_true, cond_true]
    refine ih (hi - ((lo + hi) / 2 + 1)) (by omega) _ hi (by omega) hhi (fun j hj hji => ?_) h2 f (by omega)
    have := asc_below ordK_ord ha (f := kf s2 s3 s4 b5 r6) (m := (lo + hi) / 2) (by simpa using hm) (by simpa using hc) (j := j) (by simpa using hj) (by omega)
    simpa using this
   ·simp only [hc, decide_false, cond_false]
    refine ih ((lo + hi) / 2 - lo) (by omega) lo _ (by omega) (by omega) h1 (fun j hj hji => ?_) f (by omega)
    have := asc_above ordK_ord ha (f := kf s2 s3 s4 b5 r6) (m := (lo + hi) / 2) (by simpa using hm) (by simpa using hc) (j := j) (by simpa using hj) (by omega)
    simpa using this
  ·have : lo = hi := by omega
   subst this
   obtain ⟨k1, k2⟩ := cnt_at (c := ordK) (f := kf s2 s3 s4 b5 r6) (l := r1.map kr) (i := lo) (by simpa using hhi) (fun j hj hji => by simpa using h1 j (by simpa using hj) hji) (fun j hj hji => by simpa using h2 j (by simpa using hj) hji)
   have c1 : ¬ (lo : Int) < (lo : Int) := by omega
   rw [k1, k2]
   by_cases hi2 : lo < r1.length
   ·have c2 : (lo : Int) < (r1.length : Int) := by omega
    have c3 : (0 : Int) ≤ (lo : Int) := by omega
    simp only [c1, c2, c3, decide_true, decide_false, cond_true, cond_false, if_true, Int.toNat_natCast, getD_get hi2, hcmp _ hi2, obind_some]
    rw [dif_pos (by simpa using hi2)]
    simp
   ·have c2 : ¬ (lo : Int) < (r1.length : Int) := by omega
    simp only [c1, c2, decide_false, cond_false]
    rw [dif_neg (by simpa using hi2)]
theorem bsF_q {b0 b5 : Bool} {r1 r6 : Rows} {s2 s3 s4 : ByteArray} (hs : SmallL r1) (hl : r1.length ≤ 1000) (ha : Asc ordK (r1.map kr)) :
  z4_v n b0 r1 s2 s3 s4 b5 r6 = some (((cntO ordK (kf s2 s3 s4 b5 r6) (r1.map kr) : Int), (isO ordK (kf s2 s3 s4 b5 r6) (r1.map kr), ())), ()) := by
 rw [z4_e]
 exact bsF_loop hn hs (by omega) ha r1.length 0 r1.length (by omega) (Nat.le_refl _) (fun j hj h => by omega) (fun j hj h => by omega) n (by omega)
end
end Go.Den
