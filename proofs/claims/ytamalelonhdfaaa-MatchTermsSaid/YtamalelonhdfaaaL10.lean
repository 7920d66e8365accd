import Derived.Test.YtamalelonhdfaaaE10
import Derived.Test.YtamalelonhdfaaaL28
namespace Go.Den
open Go.Proofs
theorem lookN_lt (v : ByteArray) : ∀ rows : Rows, -1 ≤ lookN v rows ∧ (lookN v rows < rows.length)
  | [] => by simp [lookN]
  | r :: l => by
    have := lookN_lt v l
    simp only [lookN, List.length_cons]
    split
    · omega
    · split <;> omega
theorem orcOk10 (n : Nat) : OSound Try.prog (Φ10 n) := with_ok mixed (by kernel_rfl) (sp_ok c28 (SpecOk.none _)) n 1 []
theorem k10 (v : ByteArray) (b : Bool) (i : Int) (s : ByteArray) (nl : Bool) (rows : Rows) (hb : rows.length < big) :
    Contract Try.prog 10 [.agg [.S v, .B b, .I .i64 i, .S s], .sl nl kB rows .no] [] (outV (val v b i s rows)) := by
  refine fn_ok (orcOk10 0) mixed Try.func10 (by decide) (lv := []) (n := 0) (keep := false) ?_
  refine (f10_e _ _ _ _ _ _ _).trans ?_
  obtain ⟨h1, h2⟩ := lookN_lt v rows
  have hb' : rows.length < 4611686018427387904 := hb
  unfold val nilT noS
  cases hn : (v == ByteArray.mk #[] && (b == false && (i == 0 && (s == ByteArray.mk #[] && true)))) with
  | true => rfl
  | false =>
    simp only [cond_false]
    cases hv : v == ByteArray.mk #[] with
    | true => rfl
    | false =>
      simp only [cond_false, hb', if_true]
      by_cases hl : lookN v rows < 0
      · simp only [hl, decide_true, cond_true]; rfl
      · have h0 : 0 ≤ lookN v rows := by omega
        simp only [hl, decide_false, cond_false, h0, h2, if_true]; rfl
theorem c10 : Spec1Ok Try.prog 10 g10 := by
  intro R args ext K r h
  unfold g10 at h ⊢
  split at h
  · rename_i v b i s nl ks rows
    split at h
    · rename_i h1
      split at h
      · rename_i h2
        have h1' := Kd.sameL_eq h1
        subst h1'
        exact ⟨_, k10 v b i s nl rows h2, h, fun R' K' => by simp only [h1, h2, if_true]⟩
      · cases h
    · cases h
  · cases h
theorem f11_loop (n : Nat) (v : ByteArray) (b : Bool) (i : Int) (s : ByteArray) (nl : Bool) (rows : Rows) (hb : rows.length < big) :
    ∀ (k j : Nat), j + k = rows.length → ∀ i0, k < i0 → f11_l6 n v b i s nl rows i0 (j : Int) =
      some (outV (bif decide (lookN v (rows.drop j) < 0) then (false, false, 0, noS)
        else (true, Row.B (rows.getD (j + (lookN v (rows.drop j)).toNat) []) 1, Row.I (rows.getD (j + (lookN v (rows.drop j)).toNat) []) 2, Row.S (rows.getD (j + (lookN v (rows.drop j)).toNat) []) 3))) := by
  intro k
  induction k with
  | zero =>
    intro j hj i0 hi
    obtain ⟨i0, rfl⟩ : ∃ m, i0 = m + 1 := ⟨i0 - 1, by omega⟩
    rw [f11_s6, List.drop_eq_nil_of_le (by omega)]
    have h1 : ¬ ((j : Int) < (rows.length : Int)) := by omega
    simp only [h1, decide_false, cond_false, lookN]
    rfl
  | succ k ih =>
    intro j hj i0 hi
    obtain ⟨i0, rfl⟩ : ∃ m, i0 = m + 1 := ⟨i0 - 1, by omega⟩
    have hlt : j < rows.length := by omega
    rw [f11_s6, List.drop_eq_getElem_cons hlt]
    have h1 : (j : Int) < (rows.length : Int) := by omega
    have h0 : (0 : Int) ≤ (j : Int) := by omega
    rw [wrap_succ (by omega), ih (j + 1) (by omega) i0 (by omega)]
    simp only [h1, h0, decide_true, cond_true, if_true, Int.toNat_natCast, getD_get hlt, lookN]
    by_cases hr : (Row.S rows[j] 0 == v) = true
    · simp only [hr, cond_true, if_true]
      have e1 : ¬ ((0 : Int) < 0) := by omega
      simp only [e1, decide_false, cond_false, Int.toNat_zero, Nat.add_zero, getD_get hlt]
      rfl
    · have hr' : (Row.S rows[j] 0 == v) = false := by simpa using hr
      simp only [hr', cond_false, Bool.false_eq_true, if_false]
      obtain ⟨g1, g2⟩ := lookN_lt v (List.drop (j + 1) rows)
      by_cases hn : lookN v (List.drop (j + 1) rows) < 0
      · have e2 : ((-1 : Int) < 0) := by omega
        simp only [hn, e2, if_true, decide_true, cond_true]
      · have e1 : ¬ (lookN v (List.drop (j + 1) rows) + 1 < 0) := by omega
        have e2 : j + (lookN v (List.drop (j + 1) rows) + 1).toNat = j + 1 + (lookN v (List.drop (j + 1) rows)).toNat := by omega
        simp only [hn, e1, if_false, decide_false, cond_false, e2]
theorem k11 (v : ByteArray) (b : Bool) (i : Int) (s : ByteArray) (nl : Bool) (rows : Rows) (hb : rows.length < big) :
    Contract Try.prog 11 [.agg [.S v, .B b, .I .i64 i, .S s], .sl nl kB rows .no] [] (outV (val v b i s rows)) := by
  refine fn_ok (orcOk10 (rows.length + 1)) mixed Try.func11 (by decide) (lv := lv11) (n := rows.length + 1) (keep := false) ?_
  refine (f11_e _ _ _ _ _ _ _).trans ?_
  have hl := f11_loop (rows.length + 1) v b i s nl rows hb rows.length 0 (by omega) (rows.length + 1) (by omega)
  rw [show ((0 : Nat) : Int) = 0 from rfl] at hl
  rw [hl, List.drop_zero]
  simp only [Nat.zero_add]
  unfold val nilT noS
  cases hn : (v == ByteArray.mk #[] && (b == false && (i == 0 && (s == ByteArray.mk #[] && true)))) with
  | true => rfl
  | false =>
    simp only [cond_false]
    cases hv : v == ByteArray.mk #[] with
    | true => rfl
    | false => rfl
theorem c11 : Spec1Ok Try.prog 11 g10 := by
  intro R args ext K r h
  unfold g10 at h ⊢
  split at h
  · rename_i v b i s nl ks rows
    split at h
    · rename_i h1
      split at h
      · rename_i h2
        have h1' := Kd.sameL_eq h1
        subst h1'
        exact ⟨_, k11 v b i s nl rows h2, h, fun R' K' => by simp only [h1, h2, if_true]⟩
      · cases h
    · cases h
  · cases h
end Go.Den
