import Derived.Test.YtlpnccpagikioaaDoorZ30
set_option linter.unusedVariables false
set_option linter.unusedSimpArgs false
set_option linter.unusedSectionVars false
/- CheckBinds. -/
namespace Go.Den
open Go.Proofs
set_option linter.unusedVariables false
def okS : Rows → Seen → Bool
  | [], _ => true
  | r :: t, s => (ruleR r).isSome && (!decide (placeD (ruleD r) > -2) && (!decide ((aritD s (ruleD r)).2 > -2) && (!decide (freeR (ruleD r) > -2) && (!openD (ruleD r) && okS t (aritD s (ruleD r)).1))))
theorem progS_ok : ∀ (l : Rows) (i : Nat) (s : Seen), (progS l i s).1 = 0 → okS l s = true
  | [], _, _, _ => rfl
  | r :: t, i, s, h => by
    unfold progS at h
    unfold okS
    cases h1 : ruleR r with
    | none => rw [h1] at h; cases h
    | some u =>
      rw [h1] at h
      simp only at h
      cases h2 : decide (placeD (ruleD r) > -2) with
      | true => rw [h2] at h; cases h
      | false =>
        cases h3 : decide ((aritD s (ruleD r)).2 > -2) with
        | true => rw [h2, h3] at h; cases h
        | false =>
          cases h4 : decide (freeR (ruleD r) > -2) with
          | true => rw [h2, h3, h4] at h; cases h
          | false =>
            cases h5 : openD (ruleD r) with
            | true => rw [h2, h3, h4, h5] at h; cases h
            | false =>
              rw [h2, h3, h4, h5] at h
              have := progS_ok t (i + 1) _ h
              simp [this]
theorem okS_prog : ∀ (l : Rows) (i : Nat) (s : Seen), okS l s = true → progS l i s = (0, -1, -1)
  | [], _, _, _ => rfl
  | r :: t, i, s, h => by
    unfold okS at h
    unfold progS
    simp only [Bool.and_eq_true, Bool.not_eq_true'] at h
    obtain ⟨h1, h2, h3, h4, h5, h6⟩ := h
    cases h0 : ruleR r with
    | none => rw [h0] at h1; cases h1
    | some u =>
      simp only
      rw [h2, h3, h4, h5]
      exact okS_prog t (i + 1) _ h6
theorem progC_ok {l : Rows} (h : (progC l).1 = 0) : okS l [] = true ∧ l.length ≤ 16 := by
  unfold progC at h
  cases hd : decide ((l.length : Int) > 16) with
  | true => rw [hd] at h; cases h
  | false =>
    rw [hd] at h
    have : ¬ (l.length : Int) > 16 := of_decide_eq_false hd
    exact ⟨progS_ok _ _ _ h, by omega⟩
theorem okS_mem : ∀ {l : Rows} {s : Seen}, okS l s = true → ∀ r ∈ l, ¬ freeR (ruleD r) > -2 ∧ openD (ruleD r) = false
  | [], _, _, r, hr => by cases hr
  | a :: t, s, h, r, hr => by
    unfold okS at h
    simp only [Bool.and_eq_true, Bool.not_eq_true'] at h
    obtain ⟨h1, h2, h3, h4, h5, h6⟩ := h
    rcases List.mem_cons.1 hr with rfl | hr
    · exact ⟨of_decide_eq_false h4, h5⟩
    · exact okS_mem h6 r hr
theorem freeL_all {home : ByteArray} {body : List LitD} : ∀ (l : List LitD) (q : Nat), ¬ freeL home body l q > -2 → ∀ j, (hj : j < l.length) → l[j].2.2.2.1 = noS ∨ l[j].2.2.2.1 ∈ boundS home body (q + j)
  | [], _, _, j, hj => by cases hj
  | a :: l, q, h, j, hj => by
    unfold freeL at h
    by_cases h1 : a.2.2.2.1 = noS
    · rw [if_pos h1] at h
      cases j with
      | zero => exact .inl h1
      | succ j =>
        have := freeL_all l (q + 1) h j (by simp only [List.length_cons] at hj; omega)
        rw [show q + (j + 1) = q + 1 + j by omega]; exact this
    · rw [if_neg h1] at h
      by_cases h2 : a.2.2.2.1 ∈ boundS home body q
      · rw [if_pos h2] at h
        cases j with
        | zero => exact .inr h2
        | succ j =>
          have := freeL_all l (q + 1) h j (by simp only [List.length_cons] at hj; omega)
          rw [show q + (j + 1) = q + 1 + j by omega]; exact this
      · rw [if_neg h2] at h
        exact absurd (show (q : Int) > -2 by omega) h
theorem openL_all {v : List ByteArray} : ∀ (l : List Tm), openL v l = false → ∀ t ∈ l, t.1 = noS ∨ t.1 ∈ v
  | [], _, t, ht => by cases ht
  | a :: l, h, t, ht => by
    unfold openL at h
    by_cases h1 : a.1 = noS
    · rw [if_pos h1] at h
      rcases List.mem_cons.1 ht with rfl | ht
      · exact .inl h1
      · exact openL_all l h t ht
    · rw [if_neg h1] at h
      by_cases h2 : a.1 ∈ v
      · rw [if_pos h2] at h
        rcases List.mem_cons.1 ht with rfl | ht
        · exact .inr h2
        · exact openL_all l h t ht
      · rw [if_neg h2] at h; cases h
theorem fold_pre : ∀ (l v : List ByteArray), ∃ w, l.foldl addV v = v ++ w
  | [], v => ⟨[], by simp⟩
  | s :: l, v => by
    obtain ⟨w, hw⟩ := fold_pre l (addV v s)
    rw [List.foldl_cons, hw]
    unfold addV
    split
    · exact ⟨w, rfl⟩
    · split
      · exact ⟨w, rfl⟩
      · exact ⟨[s] ++ w, by simp⟩
theorem bound_pre {home : ByteArray} {body : List LitD} {j : Nat} (hj : j < body.length) : ∃ w, boundS home body (j + 1) = boundS home body j ++ w := by
  unfold boundS
  rw [List.take_succ_eq_append_getElem hj, List.flatMap_append, List.foldl_append]
  exact fold_pre _ _
theorem Binds_19 {n : Nat} {r1 : Rows} {b0 b15 : Bool} {V : List ByteArray} (hn : 2000000 < n) (hV : V.length ≤ 1900000) {q : Nat} (hq : q < r1.length) (ha : (Row.R r1[q] 5).length ≤ 1000) (hall : ∀ t ∈ Row.R r1[q] 5, Row.S t 0 = noS ∨ Row.S t 0 ∈ V) {i0 : Nat} (hq2 : r1.length ≤ 1000) :
    ∀ k j : Nat, j + k = (Row.R r1[q] 5).length → ∀ i, k < i → law10_CheckBinds_l19 n b0 r1 i0 i b15 (sr V) (j : Int) (q : Int) = law10_CheckBinds_l7 n b0 r1 i0 ((q + 1 : Nat) : Int) := by
  have hb : 4000000 ≤ big := by unfold big; omega
  have hq1 : (q : Int) < (r1.length : Int) := by omega
  have hw : IntKind.wrap IntKind.i64 ((q : Int) + 1) = ((q + 1 : Nat) : Int) := wrap_succ (by omega)
  intro k
  induction k with
  | zero =>
    intro j hj i hi
    obtain ⟨i, rfl⟩ : ∃ m, i = m + 1 := ⟨i - 1, by omega⟩
    rw [law10_CheckBinds_s19]
    simp only [hq1, natj, if_true, Int.toNat_natCast, getD_get hq]
    have h1 : ¬ (j : Int) < ((Row.R r1[q] 5).length : Int) := by omega
    simp only [h1, decide_false, cond_false, hw]
  | succ k ih =>
    intro j hj i hi
    obtain ⟨i, rfl⟩ : ∃ m, i = m + 1 := ⟨i - 1, by omega⟩
    have hlt : j < (Row.R r1[q] 5).length := by omega
    have h1 : (j : Int) < ((Row.R r1[q] 5).length : Int) := by omega
    rw [law10_CheckBinds_s19, wrap_succ (show j < big by omega), ih (j + 1) (by omega) i (by omega)]
    simp only [hq1, natj, if_true, Int.toNat_natCast, getD_get hq, h1, decide_true, cond_true, getD_get hlt]
    rcases hall _ (List.getElem_mem hlt) with h | h
    · rw [h]; rfl
    · rw [Has_q (by omega) (by omega), decide_eq_true h]
      cases (!Row.S (Row.R r1[q] 5)[j] 0 == noS) <;> rfl
theorem Binds_11 {n : Nat} {r1 : Rows} {b0 b15 : Bool} {V : Rows} (hn : 2000000 < n) {q : Nat} (hq : q < r1.length) (hB : BodyOk (Row.R r1[q] 10)) (hfree : ¬ freeR (ruleD r1[q]) > -2) {i0 : Nat} (hq2 : r1.length ≤ 1000) :
    ∀ k j : Nat, j + k = (Row.R r1[q] 10).length → ∀ i, k < i → law10_CheckBinds_l11 n b0 r1 i0 i b15 V (j : Int) (q : Int) = law10_CheckBinds_l19 n b0 r1 i0 n b15 V 0 (q : Int) := by
  have hb : 4000000 ≤ big := by unfold big; omega
  have hq1 : (q : Int) < (r1.length : Int) := by omega
  have hlen := hB.len
  intro k
  induction k with
  | zero =>
    intro j hj i hi
    obtain ⟨i, rfl⟩ : ∃ m, i = m + 1 := ⟨i - 1, by omega⟩
    rw [law10_CheckBinds_s11]
    simp only [hq1, natj, if_true, Int.toNat_natCast, getD_get hq]
    have h1 : ¬ (j : Int) < ((Row.R r1[q] 10).length : Int) := by omega
    simp only [h1, decide_false, cond_false]
  | succ k ih =>
    intro j hj i hi
    obtain ⟨i, rfl⟩ : ∃ m, i = m + 1 := ⟨i - 1, by omega⟩
    have hlt : j < (Row.R r1[q] 10).length := by omega
    have h1 : (j : Int) < ((Row.R r1[q] 10).length : Int) := by omega
    have hlt2 : j < ((Row.R r1[q] 10).map litD).length := by rw [List.length_map]; exact hlt
    rw [law10_CheckBinds_s11, wrap_succ (show j < big by omega), ih (j + 1) (by omega) i (by omega)]
    simp only [hq1, natj, if_true, Int.toNat_natCast, getD_get hq, h1, decide_true, cond_true, getD_get hlt]
    obtain ⟨c1, e1⟩ := Bound_q (n := n) (s0 := Row.S r1[q] 0) (b1 := Row.B r1[q] 1) (j2 := Row.I r1[q] 2) (s3 := Row.S r1[q] 3) (s4 := Row.S r1[q] 4) (b5 := Row.N r1[q] 5) (r6 := Row.R r1[q] 5) (s7 := Row.S r1[q] 6) (b8 := Row.B r1[q] 7) (j9 := Row.I r1[q] 8) (s10 := Row.S r1[q] 9) (b11 := Row.N r1[q] 10) (r12 := Row.R r1[q] 10) (j13 := (j : Int)) hn hB
    obtain ⟨c2, e2⟩ := Bound_q (n := n) (s0 := Row.S r1[q] 0) (b1 := Row.B r1[q] 1) (j2 := Row.I r1[q] 2) (s3 := Row.S r1[q] 3) (s4 := Row.S r1[q] 4) (b5 := Row.N r1[q] 5) (r6 := Row.R r1[q] 5) (s7 := Row.S r1[q] 6) (b8 := Row.B r1[q] 7) (j9 := Row.I r1[q] 8) (s10 := Row.S r1[q] 9) (b11 := Row.N r1[q] 10) (r12 := Row.R r1[q] 10) (j13 := ((j + 1 : Nat) : Int)) hn hB
    have l1 := bound_len (r12 := Row.R r1[q] 10) (s0 := Row.S r1[q] 0) (k := j) hB
    rw [e1, e2, Int.toNat_natCast, Int.toNat_natCast]
    simp only [obs]
    obtain ⟨w, hw⟩ := bound_pre (home := Row.S r1[q] 0) hlt2
    have hvar : ((Row.R r1[q] 10).map litD)[j].2.2.2.1 = noS ∨ ((Row.R r1[q] 10).map litD)[j].2.2.2.1 ∈ boundS (Row.S r1[q] 0) ((Row.R r1[q] 10).map litD) (0 + j) := freeL_all _ 0 hfree j hlt2
    rw [Nat.zero_add] at hvar
    rw [List.getElem_map] at hvar
    generalize hA : boundS (Row.S r1[q] 0) ((Row.R r1[q] 10).map litD) j = A at l1 hw
    have hvar' : Row.S (Row.R r1[q] 10)[j] 6 = noS ∨ Row.S (Row.R r1[q] 10)[j] 6 ∈ A := by rw [← hA]; exact hvar
    rw [hw]
    have hg : ¬ ((sr A).length : Int) > ((sr (A ++ w)).length : Int) := by rw [sr_len, sr_len, List.length_append]; omega
    have hg2 : ((sr A).length : Int) ≤ ((sr (A ++ w)).length : Int) := by omega
    have ht : List.drop 0 (List.take (sr A).length (sr (A ++ w))) = sr A := by
      have ha : sr (A ++ w) = sr A ++ sr w := List.map_append ..
      rw [List.drop_zero, ha]; exact List.take_left
    simp only [hg, decide_false, cond_false, hg2, if_true]
    rw [ht, Texts_q (by omega) (by omega)]
    simp only [obs, Bool.not_true, cond_false]
    rcases hvar' with h | h
    · rw [h]; rfl
    · rw [Has_q (by omega) (by omega), decide_eq_true h]
      cases (!Row.S (Row.R r1[q] 10)[j] 6 == noS) <;> rfl
theorem Binds_7 {n : Nat} {r1 : Rows} {b0 : Bool} (hn : 2000000 < n) (hl : r1.length ≤ 1000) (h : ∀ r ∈ r1, RuleOk n r) (hok : ∀ r ∈ r1, ¬ freeR (ruleD r) > -2 ∧ openD (ruleD r) = false) : ∀ k q : Nat, q + k = r1.length → ∀ i, k < i → law10_CheckBinds_l7 n b0 r1 i (q : Int) = some (true, ()) := by
  have hb : 4000000 ≤ big := by unfold big; omega
  intro k
  induction k with
  | zero =>
    intro q hq i hi
    obtain ⟨i, rfl⟩ : ∃ m, i = m + 1 := ⟨i - 1, by omega⟩
    rw [law10_CheckBinds_s7, live_q hn]
    have h1 : ¬ (q : Int) < (r1.length : Int) := by omega
    simp only [h1, decide_false, cond_false]; rfl
  | succ k ih =>
    intro q hq i hi
    obtain ⟨i, rfl⟩ : ∃ m, i = m + 1 := ⟨i - 1, by omega⟩
    have hlt : q < r1.length := by omega
    have h1 : (q : Int) < (r1.length : Int) := by omega
    have hr := h r1[q] (List.getElem_mem hlt)
    have hB := bodyOk hr
    have hlen := hB.len
    have ho := hok r1[q] (List.getElem_mem hlt)
    rw [law10_CheckBinds_s7]
    simp only [h1, natj, if_true, decide_true, cond_true, Int.toNat_natCast, getD_get hlt]
    obtain ⟨c1, e1⟩ := Vars_q (n := n) (s0 := Row.S r1[q] 0) (b1 := Row.B r1[q] 1) (j2 := Row.I r1[q] 2) (s3 := Row.S r1[q] 3) (s4 := Row.S r1[q] 4) (b5 := Row.N r1[q] 5) (r6 := Row.R r1[q] 5) (s7 := Row.S r1[q] 6) (b8 := Row.B r1[q] 7) (j9 := Row.I r1[q] 8) (s10 := Row.S r1[q] 9) (b11 := Row.N r1[q] 10) (r12 := Row.R r1[q] 10) hn hB
    rw [e1]
    simp only [obs]
    have l1 := bound_len (r12 := Row.R r1[q] 10) (s0 := Row.S r1[q] 0) (k := (Row.R r1[q] 10).length) hB
    have ha := hr.len
    have h11 := Binds_11 (n := n) (b0 := b0) (b15 := c1) (V := sr (boundS (Row.S r1[q] 0) ((Row.R r1[q] 10).map litD) (Row.R r1[q] 10).length)) (i0 := i) hn hlt hB ho.1 hl (Row.R r1[q] 10).length 0 (by omega) n (by omega)
    rw [show (0 : Int) = ((0 : Nat) : Int) from rfl, h11]
    have hall : ∀ t ∈ Row.R r1[q] 5, Row.S t 0 = noS ∨ Row.S t 0 ∈ boundS (Row.S r1[q] 0) ((Row.R r1[q] 10).map litD) (Row.R r1[q] 10).length := by
      intro t ht
      have h2 := ho.2
      unfold openD at h2
      rw [show (ruleD r1[q]).2.2.2.2.length = (Row.R r1[q] 10).length by simp [ruleD]] at h2
      exact openL_all _ h2 (tmAt t 0) (List.mem_cons_of_mem _ (List.mem_map.2 ⟨t, ht, rfl⟩))
    have h19 := Binds_19 (n := n) (b0 := b0) (b15 := c1) (i0 := i) hn l1 hlt ha hall hl (Row.R r1[q] 5).length 0 (by omega) n (by omega)
    rw [show (0 : Int) = ((0 : Nat) : Int) from rfl, h19]
    exact ih (q + 1) (by omega) i (by omega)
theorem law10_CheckBinds_pure (b0 : Bool) (r1 : Rows) (h : Fsl b0 kR r1) : ∃ n, law10_CheckBinds_v n b0 r1 = some (true, ()) := by
  refine ⟨bigN, ?_⟩
  have hN := bigN_big
  have hN2 := bigN_2
  have hlv := live_q (n := bigN) hN2
  rw [law10_CheckBinds_e, weight5_q (by omega) (by omega) h.2.2.1 h.1 (fun r hr => bigN_lt (fineR (rowsFine_mem h.2.2.1 hr)).2.2.1) (bigN_lt h.1), hlv]
  simp only [obs]
  by_cases hw : weight5 300 r1 0 > 300
  · simp only [hw, decide_true, cond_true]
  · simp only [hw, decide_false, cond_false]
    have hok := rulesOk h.2.2.1 (by omega)
    have hlen := hok.len
    rw [Program_q hN2 (by omega) hok.ok]
    simp only [obs, outP]
    by_cases he : (progC r1).1 = 0
    · rw [he]
      simp only [bne_self_eq_false, cond_false]
      exact Binds_7 hN2 (by omega) hok.ok (okS_mem (progC_ok he).1) r1.length 0 (by omega) bigN (by omega)
    · have : ((progC r1).1 != 0) = true := by simpa using he
      rw [this]; rfl
end Go.Den
