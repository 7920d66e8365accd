import Derived.Test.YtamalelonhdfaaaE14
import Derived.Test.YtamalelonhdfaaaL12
namespace Go.Den
open Go.Proofs
theorem f14_loop (n : Nat) (nl0 : Bool) (r0 : Rows) (nl1 : Bool) (r1 : Rows) (hb : r0.length < big) (hl : r0.length = r1.length) :
    ∀ (k j : Nat), j + k = r0.length → ∀ i0, k < i0 → f14_l4 n nl0 r0 nl1 r1 i0 (j : Int) = some ⟨false, .B (like (r0.drop j) (r1.drop j)), []⟩ := by
  intro k
  induction k with
  | zero =>
    intro j hj i0 hi
    obtain ⟨i0, rfl⟩ : ∃ m, i0 = m + 1 := ⟨i0 - 1, by omega⟩
    rw [f14_s4, List.drop_eq_nil_of_le (by omega), List.drop_eq_nil_of_le (by omega)]
    have h1 : ¬ ((j : Int) < (r0.length : Int)) := by omega
    simp only [h1, decide_false, cond_false, like]
  | succ k ih =>
    intro j hj i0 hi
    obtain ⟨i0, rfl⟩ : ∃ m, i0 = m + 1 := ⟨i0 - 1, by omega⟩
    have hlt : j < r0.length := by omega
    have hlt2 : j < r1.length := by omega
    rw [f14_s4, List.drop_eq_getElem_cons hlt, List.drop_eq_getElem_cons hlt2]
    have h1 : (j : Int) < (r0.length : Int) := by omega
    have h2 : (j : Int) < (r1.length : Int) := by omega
    have h0 : (0 : Int) ≤ (j : Int) := by omega
    rw [wrap_succ (by omega), ih (j + 1) (by omega) i0 (by omega)]
    simp only [h1, h2, h0, decide_true, cond_true, if_true, Int.toNat_natCast, getD_get hlt, getD_get hlt2, like, eqBind]
    cases hc : (Row.S r0[j] 0 == Row.S r1[j] 0 && (Row.B r0[j] 1 == Row.B r1[j] 1 && (Row.I r0[j] 2 == Row.I r1[j] 2 && (Row.S r0[j] 3 == Row.S r1[j] 3 && true)))) with
    | true => simp only [Bool.not_true, cond_false, Bool.true_and]
    | false => simp only [Bool.not_false, cond_true, Bool.false_and]
theorem like_len : ∀ {a b : Rows}, like a b = true → a.length = b.length
  | [], [], _ => rfl
  | _ :: l, _ :: m, h => by simp only [like, Bool.and_eq_true] at h; simp [like_len h.2]
  | [], _ :: _, h => by simp [like] at h
  | _ :: _, [], h => by simp [like] at h
theorem like_refl : ∀ a : Rows, like a a = true
  | [] => rfl
  | r :: l => by simp [like, eqBind, like_refl l]
theorem k14 (nl0 : Bool) (r0 : Rows) (nl1 : Bool) (r1 : Rows) (hb : r0.length < big) : Contract Try.prog 14 [.sl nl0 kB r0 .no, .sl nl1 kB r1 .no] [] ⟨false, .B (like r0 r1), []⟩ := by
  refine fn_ok (with_ok (σ := Spec.none) (T := []) mixed (by kernel_rfl) (SpecOk.none _) (r0.length + 1) 0 []) mixed Try.func14 (by decide) (lv := lv14) (n := r0.length + 1) (keep := false) ?_
  refine (f14_e _ _ _ _ _).trans ?_
  by_cases hl : r0.length = r1.length
  · have h1 : ((r0.length : Int) != (r1.length : Int)) = false := by simp [hl]
    rw [h1]
    have := f14_loop (r0.length + 1) nl0 r0 nl1 r1 hb hl r0.length 0 (by omega) (r0.length + 1) (by omega)
    simpa using this
  · have h1 : ((r0.length : Int) != (r1.length : Int)) = true := by simp; omega
    rw [h1]
    have h2 : like r0 r1 = false := by
      cases h : like r0 r1 with
      | false => rfl
      | true => exact absurd (like_len h) hl
    rw [h2]; rfl
theorem c14 : Spec1Ok Try.prog 14 g14 := by
  intro R args ext K r h
  unfold g14 at h ⊢
  split at h
  · rename_i nl0 ks rows nl1 ks2 rows2
    split at h
    · rename_i h1
      split at h
      · rename_i h2
        have h1' := h1
        simp only [Bool.and_eq_true] at h1
        have e1 := Kd.sameL_eq h1.1
        have e2 := Kd.sameL_eq h1.2
        subst e1 e2
        exact ⟨_, k14 nl0 rows nl1 rows2 h2, h, fun R' K' => by simp only [h1', h2, if_true]⟩
      · cases h
    · cases h
  · cases h
end Go.Den
