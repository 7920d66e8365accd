import Derived.Test.YtlpnccpagikioaaDoorDen25
set_option linter.unusedVariables false
set_option linter.unusedSimpArgs false
set_option linter.unusedSectionVars false
/- What is known of a law's arguments. -/
namespace Go.Den
def Fsl (nl : Bool) (ks : List Kd) (rows : Rows) : Prop := rows.length ≤ reachBytes ∧ (nl = true → rows = []) ∧ RowsFine ks rows ∧ rows.length * kbytes ks ≤ reachBytes
theorem fine_at {r : Row} (h : RowFine r) (j : Nat) : (Row.at r j).Fine ∨ Row.at r j = .val undef := by
  induction r generalizing j with
  | nil => right; rfl
  | cons d r ih =>
    cases j with
    | zero => left; exact h.1
    | succ j => exact ih h.2 j
theorem fine_S {r : Row} {j : Nat} (h : RowFine r) : (Row.S r j).size ≤ reachBytes := by
  unfold Row.S
  rcases fine_at h j with hj | hj
  · generalize Row.at r j = d at hj
    cases d with
    | val v =>
      cases v <;> first | exact hj | exact Nat.zero_le _
    | sl n k rows => exact Nat.zero_le _
  · rw [hj]; exact Nat.zero_le _
theorem kd_at : ∀ {ks : List Kd} {r : Row} {j : Nat} {k : Kd}, Row.ofKds ks r = true → ks[j]? = some k → DV.ofKd k (Row.at r j) = true
  | [], r, j, k, _, h => by simp at h
  | k0 :: ks, [], j, k, h, _ => by simp [Row.ofKds] at h
  | k0 :: ks, d :: r, 0, k, h, hk => by
    simp only [Row.ofKds, Bool.and_eq_true] at h
    simp only [List.getElem?_cons_zero, Option.some.injEq] at hk
    subst hk; exact h.1
  | k0 :: ks, d :: r, j + 1, k, h, hk => by
    simp only [Row.ofKds, Bool.and_eq_true] at h
    simp only [List.getElem?_cons_succ] at hk
    exact kd_at (r := r) h.2 hk
theorem fine_I {ks : List Kd} {r : Row} {j : Nat} {k : IntKind} (ho : Row.ofKds ks r = true) (h : RowFine r) (hk : ks[j]? = some (.i k)) : (Lit.int k (Row.I r j)).wf = true := by
  have h1 := kd_at ho hk
  unfold Row.I
  rcases fine_at h j with hj | hj
  · generalize Row.at r j = d at hj h1
    cases d with
    | val v =>
      cases v <;> first | (cases h1; done) | skip
      rename_i l n
      simp only [DV.ofKd, decide_eq_true_eq] at h1
      subst h1; exact hj
    | sl n k rows => cases h1
  · rw [hj] at h1; cases h1
theorem fine_sl {ks : List Kd} {r : Row} {j : Nat} {kd : List Kd} (ho : Row.ofKds ks r = true) (h : RowFine r) (hk : ks[j]? = some (.sl kd)) : Fsl (Row.N r j) kd (Row.R r j) := by
  have h1 := kd_at ho hk
  unfold Row.N Row.R
  rcases fine_at h j with hj | hj
  · generalize Row.at r j = d at hj h1
    cases d with
    | val v => cases v <;> cases h1
    | sl n k rows =>
      simp only [DV.ofKd] at h1
      obtain rfl := Kd.sameL_eq h1
      exact hj
  · rw [hj] at h1; cases h1
theorem rowsFine_mem {ks : List Kd} {rows : Rows} (h : RowsFine ks rows) : ∀ {r}, r ∈ rows → Row.ofKds ks r = true ∧ RowFine r := by
  induction rows with
  | nil => intro r hr; cases hr
  | cons a l ih =>
    intro r hr
    rcases List.mem_cons.1 hr with rfl | hr
    · exact ⟨h.1, h.2.1⟩
    · exact ih h.2.2 hr
theorem rowsFine_get {ks : List Kd} {rows : Rows} (h : RowsFine ks rows) {j : Nat} (hj : j < rows.length) : Row.ofKds ks rows[j] = true ∧ RowFine rows[j] := rowsFine_mem h (List.getElem_mem hj)
theorem lit_i64 {z : Int} (h : (Lit.int .i64 z).wf = true) : -9223372036854775808 ≤ z ∧ z < 9223372036854775808 := by
  simp only [Lit.wf, Bool.and_eq_true, decide_eq_true_eq] at h
  have h1 : IntKind.min .i64 = -9223372036854775808 := by decide
  have h2 : IntKind.max .i64 = 9223372036854775807 := by decide
  omega
end Go.Den
