import Derived.Test.YtamalelonhdfaaaE28
namespace Go.Den
open Go.Proofs
theorem f28_loop (n : Nat) (nl : Bool) (rows : Rows) (v : ByteArray) (b : Bool) (i : Int) (s : ByteArray) (hb : rows.length < big) :
    ∀ (k j : Nat), j + k = rows.length → ∀ i0, k < i0 → f28_l2 n nl rows v b i s i0 (j : Int) =
      some ⟨false, .I .i64 (if lookN v (rows.drop j) < 0 then -1 else j + lookN v (rows.drop j)), [[.S v, .B b, .I .i64 i, .S s]]⟩ := by
  intro k
  induction k with
  | zero =>
    intro j hj i0 hi
    obtain ⟨i0, rfl⟩ : ∃ m, i0 = m + 1 := ⟨i0 - 1, by omega⟩
    rw [f28_s2, List.drop_eq_nil_of_le (by omega)]
    have h1 : ¬ ((j : Int) < (rows.length : Int)) := by omega
    simp [h1, lookN]
  | succ k ih =>
    intro j hj i0 hi
    obtain ⟨i0, rfl⟩ : ∃ m, i0 = m + 1 := ⟨i0 - 1, by omega⟩
    have hlt : j < rows.length := by omega
    rw [f28_s2, List.drop_eq_getElem_cons hlt]
    have h1 : (j : Int) < (rows.length : Int) := by omega
    have h0 : (0 : Int) ≤ (j : Int) := by omega
    rw [wrap_succ (by omega), ih (j + 1) (by omega) i0 (by omega)]
    simp only [h1, h0, decide_true, cond_true, if_true, Int.toNat_natCast, getD_get hlt, lookN]
    by_cases hr : (Row.S rows[j] 0 == v) = true
    · simp [hr]
    · have hr' : (Row.S rows[j] 0 == v) = false := by simpa using hr
      simp only [hr', cond_false, Bool.false_eq_true, if_false]
      by_cases hn : lookN v (List.drop (j + 1) rows) < 0
      · simp [hn]
      · have : ¬ (lookN v (List.drop (j + 1) rows) + 1 < 0) := by omega
        simp only [hn, this, if_false]
        have e1 : ((j + 1 : Nat) : Int) + lookN v (List.drop (j + 1) rows) = (j : Int) + (lookN v (List.drop (j + 1) rows) + 1) := by omega
        rw [e1]
theorem mixed : Try.prog.follows .mixedOrders = true := by kernel_rfl
theorem k28 (nl : Bool) (rows : Rows) (v : ByteArray) (b : Bool) (i : Int) (s : ByteArray) (hb : rows.length < big) :
    Contract Try.prog 28 [.sl nl kB rows .no, .fn 29 [.pl 1000 0]] [[.S v, .B b, .I .i64 i, .S s]] ⟨false, .I .i64 (lookN v rows), [[.S v, .B b, .I .i64 i, .S s]]⟩ := by
  refine fn_ok (with_ok (σ := Spec.none) (T := [(29, [], [])]) mixed (by kernel_rfl) (SpecOk.none _) (rows.length + 1) 1 []) mixed Try.func28 (by decide) (lv := lv28) (n := rows.length + 1) (keep := false) ?_
  refine (f28_e _ _ _ _ _ _ _).trans ((f28_loop _ _ _ _ _ _ _ hb rows.length 0 (by omega) _ (by omega)).trans ?_)
  rw [List.drop_zero]
  have : (if lookN v rows < 0 then -1 else ((0 : Nat) : Int) + lookN v rows) = lookN v rows := by
    cases rows with
    | nil => rfl
    | cons r l => simp only [lookN]; split <;> split <;> omega
  rw [this]
theorem c28 : Spec1Ok Try.prog 28 g28 := by
  intro R args ext K r h
  unfold g28 at h ⊢
  split at h
  · rename_i nl ks rows g k o v b i s
    split at h
    · rename_i h1
      split at h
      · rename_i h2
        have h1' := h1
        simp only [Bool.and_eq_true, beq_eq] at h1
        obtain ⟨⟨⟨rfl, rfl⟩, rfl⟩, h3⟩ := h1
        obtain rfl := Kd.sameL_eq h3
        exact ⟨_, k28 nl rows v b i s h2, h, fun R' K' => by simp only [h1', h2, if_true]⟩
      · cases h
    · cases h
  · cases h
end Go.Den
