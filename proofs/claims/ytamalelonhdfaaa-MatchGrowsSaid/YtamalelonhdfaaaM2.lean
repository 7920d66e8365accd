import Derived.Test.YtamalelonhdfaaaM1
set_option linter.unusedVariables false
set_option linter.unusedSimpArgs false
set_option linter.unusedSectionVars false
/- Literals; what is light; MatchLiterals. -/
namespace Go.Den
open Go.Proofs
theorem match_text_q (n : Nat) (s : ByteArray) : match_text_v n s = some ((false, (0, (s, ()))), ()) := match_text_e n s
theorem ref11_Name_q (n : Nat) (s : ByteArray) : ref11_Name_v n s = some ((false, (0, (s, ()))), ()) := ref11_Name_e n s
theorem match_or_q (n : Nat) (v s v' s' : ByteArray) (b b' : Bool) (i i' : Int) : match_or_v n v b i s v' b' i' s' =
    some (((orT (v, b, i, s) (v', b', i', s')).1, ((orT (v, b, i, s) (v', b', i', s')).2.1, ((orT (v, b, i, s) (v', b', i', s')).2.2.1, ((orT (v, b, i, s) (v', b', i', s')).2.2.2, ())))), ()) := by
  rw [match_or_e]
  unfold orT
  cases hn : nilT (v, b, i, s) with
  | true => unfold nilT at hn; simp only [hn, cond_true]
  | false => unfold nilT at hn; simp only [hn, cond_false]
section
variable {n : Nat} {s0 s3 s4 s7 s8 s11 s14 s15 s16 s17 : ByteArray} {b1 b5 b9 b12 b18 b20 : Bool} {j2 j6 j13 : Int} {r10 r19 r21 : Rows}
theorem match_Literal_no {nl : Bool} {e : Rows} {q : Nat} (hb : r10.length < big) {f : Nat} (hf : 0 < f) :
    match_Literal_l10 n s0 b1 j2 s3 s4 b5 j6 s7 s8 b9 r10 s11 b12 j13 s14 s15 s16 s17 b18 r19 b20 r21 f nl e false (q : Int) = some (outR true none, ()) := by
  obtain ⟨f, rfl⟩ : ∃ m, f = m + 1 := ⟨f - 1, by omega⟩
  rw [match_Literal_s10]
  have h0 : (0 : Int) ≤ (q : Int) := by omega
  by_cases h1 : (q : Int) < (r10.length : Int)
  · simp only [h1, h0, decide_true, cond_true, if_true, Bool.not_false]; rfl
  · simp only [h1, decide_false, cond_false, Bool.not_false, cond_true]; rfl
theorem match_Literal_loop (hb : r10.length ≤ 1000) (hl : r10.length = r19.length) :
    ∀ k q : Nat, q + k = r10.length → ∀ f nl e, k < f → e.length + k ≤ 100000 → e.length + k < n → (nl = true → e = []) →
    ∃ nl', match_Literal_l10 n s0 b1 j2 s3 s4 b5 j6 s7 s8 b9 r10 s11 b12 j13 s14 s15 s16 s17 b18 r19 b20 r21 f nl e true (q : Int) = some (outR nl' (unifs (r10.drop q) (r19.drop q) e), ()) ∧ (nl' = true → ∀ z, unifs (r10.drop q) (r19.drop q) e = some z → z = []) := by
  intro k
  induction k with
  | zero =>
    intro q hq f nl e hf he hn hw
    obtain ⟨f, rfl⟩ : ∃ m, f = m + 1 := ⟨f - 1, by omega⟩
    rw [match_Literal_s10, List.drop_eq_nil_of_le (by omega)]
    have h1 : ¬ ((q : Int) < (r10.length : Int)) := by omega
    simp only [h1, decide_false, cond_false, Bool.not_true, unifs]
    exact ⟨nl, rfl, fun h z hz => by cases hz; exact hw h⟩
  | succ k ih =>
    intro q hq f nl e hf he hn hw
    obtain ⟨f, rfl⟩ : ∃ m, f = m + 1 := ⟨f - 1, by omega⟩
    have hlt : q < r10.length := by omega
    have hlt2 : q < r19.length := by omega
    rw [match_Literal_s10, List.drop_eq_getElem_cons hlt, List.drop_eq_getElem_cons hlt2]
    have h1 : (q : Int) < (r10.length : Int) := by omega
    have h2 : (q : Int) < (r19.length : Int) := by omega
    have h0 : (0 : Int) ≤ (q : Int) := by omega
    rw [wrap_succ (show q < big by unfold big; omega)]
    obtain ⟨nl1, hu, hw1⟩ := match_Unify_q (n := n) (v := Row.S r10[q] 0) (b := Row.B r10[q] 1) (i := Row.I r10[q] 2) (s := Row.S r10[q] 3) (cb := Row.B r19[q] 0) (ci := Row.I r19[q] 1) (cs := Row.S r19[q] 2) (nl := nl) (env := e) (by omega) (by omega) hw
    simp only [h1, h2, h0, decide_true, cond_true, if_true, Bool.not_true, cond_false, Int.toNat_natCast, getD_get hlt, getD_get hlt2, hu, obind_some, unifs, tmAt, cnAt]
    simp only [Nat.zero_add]
    cases hy : unify (Row.S r10[q] 0, Row.B r10[q] 1, Row.I r10[q] 2, Row.S r10[q] 3) (Row.B r19[q] 0, Row.I r19[q] 1, Row.S r19[q] 2) e with
    | none =>
      simp only [outR]
      refine ⟨true, match_Literal_no (by unfold big; omega) (by omega), fun h z hz => by cases hz⟩
    | some e1 =>
      simp only [outR]
      have := unify_len hy
      exact ih (q + 1) (by omega) f nl1 e1 (by omega) (by omega) (by omega) (fun h => hw1 h e1 hy)
theorem match_Literal_q (ha : r10.length ≤ 1000) (he : r21.length ≤ 50000) (hn : 100000 < n) (hw : b20 = true → r21 = []) :
    ∃ nl', match_Literal_v n s0 b1 j2 s3 s4 b5 j6 s7 s8 b9 r10 s11 b12 j13 s14 s15 s16 s17 b18 r19 b20 r21 = some (outR nl' (lit (s0, b1, j2, s3) (s4, b5, j6, s7) (s11, b12, j13, s14) s8 r10 s15 s16 s17 r19 r21), ()) ∧
      (nl' = true → ∀ z, lit (s0, b1, j2, s3) (s4, b5, j6, s7) (s11, b12, j13, s14) s8 r10 s15 s16 s17 r19 r21 = some z → z = []) := by
  rw [match_Literal_e]
  unfold lit
  cases hp : !(s8 == s17) with
  | true => simp only [cond_true]; exact ⟨true, rfl, fun h z hz => by cases hz⟩
  | false =>
  simp only [cond_false]
  cases hl : (r10.length : Int) != (r19.length : Int) with
  | true => simp only [cond_true]; exact ⟨true, rfl, fun h z hz => by cases hz⟩
  | false =>
  simp only [cond_false]
  have hlen : r10.length = r19.length := by
    have h : (r10.length : Int) = (r19.length : Int) := by simpa using hl
    omega
  obtain ⟨nl1, hu, hw1⟩ := match_Unify_q (n := n) (v := (orT (s11, b12, j13, s14) (s0, b1, j2, s3)).1) (b := (orT (s11, b12, j13, s14) (s0, b1, j2, s3)).2.1) (i := (orT (s11, b12, j13, s14) (s0, b1, j2, s3)).2.2.1) (s := (orT (s11, b12, j13, s14) (s0, b1, j2, s3)).2.2.2) (cb := false) (ci := 0) (cs := s15) (nl := b20) (env := r21) (by omega) (by omega) hw
  simp only [match_or_q, match_text_q, obind_some, hu]
  have e1 : ((orT (s11, b12, j13, s14) (s0, b1, j2, s3)).1, (orT (s11, b12, j13, s14) (s0, b1, j2, s3)).2.1, (orT (s11, b12, j13, s14) (s0, b1, j2, s3)).2.2.1, (orT (s11, b12, j13, s14) (s0, b1, j2, s3)).2.2.2) = orT (s11, b12, j13, s14) (s0, b1, j2, s3) := rfl
  rw [e1] at hw1 ⊢
  have e2 : ((false, 0, s15) : Cn) = txt s15 := rfl
  rw [e2] at hw1 ⊢
  cases hy : unify (orT (s11, b12, j13, s14) (s0, b1, j2, s3)) (txt s15) r21 with
  | none => exact ⟨true, rfl, fun h z hz => by cases hz⟩
  | some e =>
  have hle := unify_len hy
  have hwe := fun h => hw1 h e hy
  simp only [outR, Bool.not_true, cond_false]
  unfold saidBy
  cases hnb : nilT (s4, b5, j6, s7) with
  | true =>
    have hnb' := hnb
    unfold nilT at hnb'
    simp only at hnb'
    simp only [hnb', cond_true]
    cases hs : s16 == s15 with
    | true =>
      simp only [cond_true]
      exact match_Literal_loop ha hlen r10.length 0 (by omega) n nl1 e (by omega) (by omega) (by omega) hwe
    | false =>
      simp only [cond_false]
      exact ⟨true, match_Literal_no (q := 0) (by unfold big; omega) (by omega), fun h z hz => by cases hz⟩
  | false =>
    have hnb' := hnb
    unfold nilT at hnb'
    simp only at hnb'
    simp only [hnb', cond_false]
    obtain ⟨nl2, hu2, hw2⟩ := match_Unify_q (n := n) (v := s4) (b := b5) (i := j6) (s := s7) (cb := false) (ci := 0) (cs := s16) (nl := nl1) (env := e) (by omega) (by omega) hwe
    rw [hu2]
    have e3 : ((false, 0, s16) : Cn) = txt s16 := rfl
    rw [e3] at hw2 ⊢
    cases hy2 : unify (s4, b5, j6, s7) (txt s16) e with
    | none =>
      simp only [outR, obind_some]
      exact ⟨true, match_Literal_no (q := 0) (by unfold big; omega) (by omega), fun h z hz => by cases hz⟩
    | some e2 =>
      have := unify_len hy2
      simp only [outR, obind_some]
      exact match_Literal_loop ha hlen r10.length 0 (by omega) n nl2 e2 (by omega) (by omega) (by omega) (fun h => hw2 h e2 hy2)
theorem ref_Literal_loop (hb : r10.length ≤ 1000) (hl : r10.length = r19.length) :
    ∀ k q : Nat, q + k = r10.length → ∀ f nl e, k < f → e.length + k ≤ 100000 → e.length + k < n →
    ∃ nl', ref11_Literal_l16 n s0 b1 j2 s3 s4 b5 j6 s7 s8 b9 r10 s11 b12 j13 s14 s15 s16 s17 b18 r19 b20 r21 f nl e (q : Int) = some (outR nl' (unifs (r10.drop q) (r19.drop q) e), ()) := by
  intro k
  induction k with
  | zero =>
    intro q hq f nl e hf he hn
    obtain ⟨f, rfl⟩ : ∃ m, f = m + 1 := ⟨f - 1, by omega⟩
    rw [ref11_Literal_s16, List.drop_eq_nil_of_le (by omega)]
    have h1 : ¬ ((q : Int) < (r10.length : Int)) := by omega
    simp only [h1, decide_false, cond_false, unifs]
    exact ⟨nl, rfl⟩
  | succ k ih =>
    intro q hq f nl e hf he hn
    obtain ⟨f, rfl⟩ : ∃ m, f = m + 1 := ⟨f - 1, by omega⟩
    have hlt : q < r10.length := by omega
    have hlt2 : q < r19.length := by omega
    rw [ref11_Literal_s16, List.drop_eq_getElem_cons hlt, List.drop_eq_getElem_cons hlt2]
    have h1 : (q : Int) < (r10.length : Int) := by omega
    have h2 : (q : Int) < (r19.length : Int) := by omega
    have h0 : (0 : Int) ≤ (q : Int) := by omega
    rw [wrap_succ (show q < big by unfold big; omega)]
    obtain ⟨nl1, hu⟩ := ref11_Unify_q (n := n) (v := Row.S r10[q] 0) (b := Row.B r10[q] 1) (i := Row.I r10[q] 2) (s := Row.S r10[q] 3) (cb := Row.B r19[q] 0) (ci := Row.I r19[q] 1) (cs := Row.S r19[q] 2) (nl := nl) (env := e) (by omega) (by omega)
    simp only [h1, h2, h0, decide_true, cond_true, if_true, Int.toNat_natCast, getD_get hlt, getD_get hlt2, hu, obind_some, unifs, tmAt, cnAt]
    simp only [Nat.zero_add]
    cases hy : unify (Row.S r10[q] 0, Row.B r10[q] 1, Row.I r10[q] 2, Row.S r10[q] 3) (Row.B r19[q] 0, Row.I r19[q] 1, Row.S r19[q] 2) e with
    | none => exact ⟨true, rfl⟩
    | some e1 =>
      simp only [outR, Bool.not_true, cond_false]
      have := unify_len hy
      exact ih (q + 1) (by omega) f nl1 e1 (by omega) (by omega) (by omega)
theorem ref_Literal_q (ha : r10.length ≤ 1000) (he : r21.length ≤ 50000) (hn : 100000 < n) :
    ∃ nl', ref11_Literal_v n s0 b1 j2 s3 s4 b5 j6 s7 s8 b9 r10 s11 b12 j13 s14 s15 s16 s17 b18 r19 b20 r21 = some (outR nl' (lit (s0, b1, j2, s3) (s4, b5, j6, s7) (s11, b12, j13, s14) s8 r10 s15 s16 s17 r19 r21), ()) := by
  rw [ref11_Literal_e]
  unfold lit
  cases hp : !(s8 == s17) with
  | true => simp only [cond_true]; exact ⟨true, rfl⟩
  | false =>
  simp only [cond_false]
  cases hl : (r10.length : Int) != (r19.length : Int) with
  | true => simp only [cond_true]; exact ⟨true, rfl⟩
  | false =>
  simp only [cond_false, ref11_none_q, ref11_Name_q, obind_some]
  have hlen : r10.length = r19.length := by
    have h : (r10.length : Int) = (r19.length : Int) := by simpa using hl
    omega
  have e2 : ((false, 0, s15) : Cn) = txt s15 := rfl
  have rest : ∀ nl1 e, e.length ≤ r21.length + 1 → ∃ nl', (bif nilT (s4, b5, j6, s7) then bif !s16 == s15 then some (((true, []), false, ()), ()) else ref11_Literal_l16 n s0 b1 j2 s3 s4 b5 j6 s7 s8 b9 r10 s11 b12 j13 s14 s15 s16 s17 b18 r19 b20 r21 n nl1 e 0
      else obind (ref11_Unify_v n s4 b5 j6 s7 false 0 s16 nl1 e) fun y27 => bif !y27.fst.snd.fst then some (((true, []), false, ()), ()) else ref11_Literal_l16 n s0 b1 j2 s3 s4 b5 j6 s7 s8 b9 r10 s11 b12 j13 s14 s15 s16 s17 b18 r19 b20 r21 n y27.fst.fst.fst y27.fst.fst.snd 0) =
      some (outR nl' (match saidBy (s4, b5, j6, s7) s15 s16 e with
        | none => none
        | some e => unifs r10 r19 e), ()) := by
    intro nl1 e hle
    unfold saidBy
    cases nilT (s4, b5, j6, s7) with
    | true =>
      simp only [cond_true]
      cases hs : s16 == s15 with
      | true =>
        simp only [cond_true, Bool.not_true, cond_false]
        exact ref_Literal_loop ha hlen r10.length 0 (by omega) n nl1 e (by omega) (by omega) (by omega)
      | false => exact ⟨true, rfl⟩
    | false =>
      simp only [cond_false]
      obtain ⟨nl2, hu2⟩ := ref11_Unify_q (n := n) (v := s4) (b := b5) (i := j6) (s := s7) (cb := false) (ci := 0) (cs := s16) (nl := nl1) (env := e) (by omega) (by omega)
      rw [hu2]
      have e3 : ((false, 0, s16) : Cn) = txt s16 := rfl
      rw [e3]
      cases hy2 : unify (s4, b5, j6, s7) (txt s16) e with
      | none => exact ⟨true, rfl⟩
      | some e2 =>
        have := unify_len hy2
        simp only [outR, obind_some, Bool.not_true, cond_false]
        exact ref_Literal_loop ha hlen r10.length 0 (by omega) n nl2 e2 (by omega) (by omega) (by omega)
  unfold orT
  cases hno : nilT (s11, b12, j13, s14) with
  | true =>
    simp only [cond_true]
    obtain ⟨nl1, hu⟩ := ref11_Unify_q (n := n) (v := s0) (b := b1) (i := j2) (s := s3) (cb := false) (ci := 0) (cs := s15) (nl := b20) (env := r21) (by omega) (by omega)
    rw [hu, e2]
    cases hy : unify (s0, b1, j2, s3) (txt s15) r21 with
    | none => exact ⟨true, rfl⟩
    | some e => simp only [outR, obind_some, Bool.not_true, cond_false]; exact rest nl1 e (unify_len hy)
  | false =>
    simp only [cond_false]
    obtain ⟨nl1, hu⟩ := ref11_Unify_q (n := n) (v := s11) (b := b12) (i := j13) (s := s14) (cb := false) (ci := 0) (cs := s15) (nl := b20) (env := r21) (by omega) (by omega)
    rw [hu, e2]
    cases hy : unify (s11, b12, j13, s14) (txt s15) r21 with
    | none => exact ⟨true, rfl⟩
    | some e => simp only [outR, obind_some, Bool.not_true, cond_false]; exact rest nl1 e (unify_len hy)
end
end Go.Den
