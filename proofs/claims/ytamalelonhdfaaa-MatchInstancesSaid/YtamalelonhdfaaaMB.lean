import Derived.Test.YtamalelonhdfaaaMA
set_option linter.unusedVariables false
set_option linter.unusedSimpArgs false
set_option linter.unusedSectionVars false
/- Terms, bindings, literals. -/
namespace Go.Den
open Go.Proofs
abbrev Tm := ByteArray × Bool × Int × ByteArray
def nilT (t : Tm) : Bool := t.1 == noS && (t.2.1 == false && (t.2.2.1 == 0 && (t.2.2.2 == noS && true)))
def look (v : ByteArray) : Rows → Option Cn
  | [] => none
  | r :: l => bif Row.S r 0 == v then some (Row.B r 1, Row.I r 2, Row.S r 3) else look v l
def value (t : Tm) (env : Rows) : Option Cn := bif nilT t then none else bif t.1 == noS then some t.2 else look t.1 env
@[reducible] def bindRow (v : ByteArray) (c : Cn) : Row := [.val (.string v), .val (.bool c.1), .val (.int .i64 c.2.1), .val (.string c.2.2)]
def unify (t : Tm) (c : Cn) (env : Rows) : Option Rows :=
  match value t env with
  | some d => bif sameC d c then some env else none
  | none => bif nilT t then none else some (env ++ [bindRow t.1 c])
def tmAt (r : Row) (o : Nat) : Tm := (Row.S r o, Row.B r (o + 1), Row.I r (o + 2), Row.S r (o + 3))
def unifs : Rows → Rows → Rows → Option Rows
  | t :: l, c :: m, env => match unify (tmAt t 0) (cnAt c) env with
    | some e => unifs l m e
    | none => none
  | _, _, env => some env
def orT (t other : Tm) : Tm := bif nilT t then other else t
def txt (s : ByteArray) : Cn := (false, 0, s)
def saidBy (t : Tm) (fAt fBy : ByteArray) (env : Rows) : Option Rows := bif nilT t then (bif fBy == fAt then some env else none) else unify t (txt fBy) env
/-- A literal against a fact. -/
def lit (home by_ at_ : Tm) (pred : ByteArray) (args : Rows) (fAt fBy fPred : ByteArray) (fArgs : Rows) (env : Rows) : Option Rows :=
  bif !(pred == fPred) then none else bif (args.length : Int) != (fArgs.length : Int) then none else
  match unify (orT at_ home) (txt fAt) env with
  | none => none
  | some e => match saidBy by_ fAt fBy e with
    | none => none
    | some e => unifs args fArgs e
def outC : Option Cn → (Bool × Int × ByteArray × Unit) × Bool × Unit
  | some c => ((c.1, (c.2.1, (c.2.2, ()))), (true, ()))
  | none => ((false, (0, (noS, ()))), (false, ()))
def outR (nl : Bool) : Option Rows → (Bool × Rows) × Bool × Unit
  | some e => ((nl, e), (true, ()))
  | none => ((true, []), (false, ()))
theorem unify_len {t : Tm} {c : Cn} {env e : Rows} (h : unify t c env = some e) : e.length ≤ env.length + 1 := by
  unfold unify at h
  split at h
  · rename_i d _
    cases hs : sameC d c with
    | true => rw [hs] at h; cases h; omega
    | false => rw [hs] at h; cases h
  · cases hn : nilT t with
    | true => rw [hn] at h; cases h
    | false => rw [hn] at h; cases h; simp
theorem saidBy_len {t : Tm} {a b : ByteArray} {env e : Rows} (h : saidBy t a b env = some e) : e.length ≤ env.length + 1 := by
  unfold saidBy at h
  cases hn : nilT t with
  | true =>
    rw [hn] at h
    cases hb : b == a with
    | true => rw [hb] at h; cases h; omega
    | false => rw [hb] at h; cases h
  | false => rw [hn] at h; exact unify_len h
theorem unifs_len : ∀ {l m env e : Rows}, unifs l m env = some e → e.length ≤ env.length + l.length
  | [], m, env, e, h => by cases h; simp
  | t :: l, [], env, e, h => by cases h; simp
  | t :: l, c :: m, env, e, h => by
    unfold unifs at h
    split at h
    · rename_i e1 h1
      have := unify_len h1
      have := unifs_len h
      simp only [List.length_cons]; omega
    · cases h
theorem lit_len {home by_ at_ : Tm} {pred : ByteArray} {args : Rows} {fAt fBy fPred : ByteArray} {fArgs env e : Rows} (h : lit home by_ at_ pred args fAt fBy fPred fArgs env = some e) : e.length ≤ env.length + args.length + 2 := by
  unfold lit at h
  cases h1 : !(pred == fPred) with
  | true => rw [h1] at h; cases h
  | false =>
  rw [h1] at h
  simp only [cond_false] at h
  cases h2 : (args.length : Int) != (fArgs.length : Int) with
  | true => rw [h2] at h; cases h
  | false =>
  rw [h2] at h
  simp only [cond_false] at h
  split at h
  · cases h
  · rename_i e1 g1
    split at h
    · cases h
    · rename_i e2 g2
      have := unify_len g1
      have := saidBy_len g2
      have := unifs_len h
      omega
/-! the code's own -/
theorem match_Value_1_q (n : Nat) (a : ByteArray) (b : Bool) (c : Int) (d e : ByteArray) (f : Bool) (g : Int) (h : ByteArray) : match_Value_1_v n a b c d e f g h = some (a == e, ((e, (f, (g, (h, ())))), ())) := match_Value_1_e n a b c d e f g h
theorem indexFunc_loop {n : Nat} {nl : Bool} {rows : Rows} {v s : ByteArray} {b : Bool} {i : Int} (hb : rows.length < big) :
    ∀ k j : Nat, j + k = rows.length → ∀ f, k < f → ∃ z : Int, slices_IndexFunc_match_Value_1_l2 n nl rows v b i s f (j : Int) v b i s = some (z, ((v, (b, (i, (s, ())))), ())) ∧
      (z < 0 ∧ look v (rows.drop j) = none ∨ ∃ q : Nat, z = (q : Int) ∧ q < rows.length ∧ look v (rows.drop j) = some (Row.B (rows.getD q []) 1, Row.I (rows.getD q []) 2, Row.S (rows.getD q []) 3)) := by
  intro k
  induction k with
  | zero =>
    intro j hj f hf
    obtain ⟨f, rfl⟩ : ∃ m, f = m + 1 := ⟨f - 1, by omega⟩
    rw [slices_IndexFunc_match_Value_1_s2, List.drop_eq_nil_of_le (by omega)]
    have h1 : ¬ ((j : Int) < (rows.length : Int)) := by omega
    simp only [h1, decide_false, cond_false]
    exact ⟨-1, rfl, .inl ⟨by omega, rfl⟩⟩
  | succ k ih =>
    intro j hj f hf
    obtain ⟨f, rfl⟩ : ∃ m, f = m + 1 := ⟨f - 1, by omega⟩
    have hlt : j < rows.length := by omega
    rw [slices_IndexFunc_match_Value_1_s2, List.drop_eq_getElem_cons hlt]
    have h1 : (j : Int) < (rows.length : Int) := by omega
    have h0 : (0 : Int) ≤ (j : Int) := by omega
    rw [wrap_succ (by omega)]
    simp only [h1, h0, decide_true, cond_true, if_true, Int.toNat_natCast, getD_get hlt, match_Value_1_q, obind_some, look]
    cases hr : Row.S rows[j] 0 == v with
    | true => simp only [cond_true]; exact ⟨j, rfl, .inr ⟨j, rfl, hlt, by rw [getD_get hlt]⟩⟩
    | false => simp only [cond_false]; exact ih (j + 1) (by omega) f (by omega)
theorem match_Value_q {n : Nat} {v s : ByteArray} {b nl : Bool} {i : Int} {env : Rows} (hb : env.length < big) (hn : env.length < n) : match_Value_v n v b i s nl env = some (outC (value (v, b, i, s) env), ()) := by
  rw [match_Value_e, slices_IndexFunc_match_Value_1_e]
  obtain ⟨z, hz, hc⟩ := indexFunc_loop (n := n) (nl := nl) (v := v) (s := s) (b := b) (i := i) hb env.length 0 (by omega) n hn
  rw [show ((0 : Nat) : Int) = 0 from rfl] at hz
  rw [List.drop_zero] at hc
  unfold value nilT
  simp only [hz, obind_some]
  cases (v == noS && (b == false && (i == 0 && (s == noS && true)))) with
  | true => rfl
  | false =>
    simp only [cond_false]
    cases v == noS with
    | true => rfl
    | false =>
      simp only [cond_false]
      rcases hc with ⟨h1, h2⟩ | ⟨q, rfl, h1, h2⟩
      · rw [h2]; simp only [h1, decide_true, cond_true]; rfl
      · have g1 : ¬ (q : Int) < 0 := by omega
        have g2 : (0 : Int) ≤ (q : Int) := by omega
        have g3 : (q : Int) < (env.length : Int) := by omega
        rw [h2]; simp only [g1, g2, g3, decide_false, cond_false, if_true, Int.toNat_natCast]; rfl
theorem slices_Clone_q {n : Nat} {nl : Bool} {rows : Rows} (h : rows.length ≤ 1000000) (hw : nl = true → rows = []) : slices_Clone_v n nl rows = some ((nl, rows), ()) := by
  rw [slices_Clone_e]
  cases nl with
  | true => rw [hw rfl]; rfl
  | false =>
    have h1 : (0 + rows.length) * 48 ≤ 140737488355328 := by omega
    simp only [cond_false, h1, if_true, appX, List.nil_append, Bool.false_and]
theorem value_none {t : Tm} {env : Rows} (h : value t env = none) (hn : nilT t = false) : (t.1 == noS) = false := by
  unfold value at h
  rw [hn] at h
  cases hv : t.1 == noS with
  | true => rw [hv] at h; cases h
  | false => rfl
theorem nilT_noS {t : Tm} (h : nilT t = true) : (t.1 == noS) = true := by
  unfold nilT at h
  simp only [Bool.and_eq_true] at h
  exact h.1
theorem match_Unify_q {n : Nat} {v s cs : ByteArray} {b cb nl : Bool} {i ci : Int} {env : Rows} (hb : env.length ≤ 1000000) (hn : env.length < n) (hw : nl = true → env = []) :
    ∃ nl', match_Unify_v n v b i s cb ci cs nl env = some (outR nl' (unify (v, b, i, s) (cb, ci, cs) env), ()) ∧ (nl' = true → ∀ e, unify (v, b, i, s) (cb, ci, cs) env = some e → e = []) := by
  rw [match_Unify_e]
  simp only [match_Value_q (show env.length < big by unfold big; omega) hn, obind_some, slices_Clone_q hb hw]
  unfold unify
  cases hv : value (v, b, i, s) env with
  | some d =>
    simp only [outC, cond_true]
    cases hs : sameC d (cb, ci, cs) with
    | true =>
      unfold sameC at hs
      simp only [hs, Bool.not_true, cond_false, cond_true]
      exact ⟨nl, rfl, fun h e he => by cases he; exact hw h⟩
    | false =>
      unfold sameC at hs
      simp only [hs, Bool.not_false, cond_true, cond_false]
      exact ⟨true, rfl, fun h e he => by cases he⟩
  | none =>
    simp only [outC, cond_false]
    cases hn : nilT (v, b, i, s) with
    | true =>
      have := nilT_noS hn
      simp only at this
      simp only [this, cond_true]
      exact ⟨true, rfl, fun h e he => by cases he⟩
    | false =>
      have := value_none hv hn
      simp only at this
      have hl : (env.length + 1) * 48 ≤ 140737488355328 := by omega
      simp only [this, cond_false, List.length_cons, List.length_nil, Nat.zero_add, hl, if_true, appX, List.isEmpty_cons, Bool.and_false]
      exact ⟨false, rfl, fun h => by cases h⟩
/-! the document's -/
theorem ref11_none_q (n : Nat) (v s : ByteArray) (b : Bool) (i : Int) : ref11_none_v n v b i s = some (nilT (v, b, i, s), ()) := ref11_none_e n v b i s
theorem ref11_Value_loop {n : Nat} {nl : Bool} {rows : Rows} {v s : ByteArray} {b : Bool} {i : Int} (hb : rows.length < big) :
    ∀ k j : Nat, j + k = rows.length → ∀ f, k < f → ref11_Value_l6 n v b i s nl rows f (j : Int) = some (outC (look v (rows.drop j)), ()) := by
  intro k
  induction k with
  | zero =>
    intro j hj f hf
    obtain ⟨f, rfl⟩ : ∃ m, f = m + 1 := ⟨f - 1, by omega⟩
    rw [ref11_Value_s6, List.drop_eq_nil_of_le (by omega)]
    have h1 : ¬ ((j : Int) < (rows.length : Int)) := by omega
    simp only [h1, decide_false, cond_false]; rfl
  | succ k ih =>
    intro j hj f hf
    obtain ⟨f, rfl⟩ : ∃ m, f = m + 1 := ⟨f - 1, by omega⟩
    have hlt : j < rows.length := by omega
    rw [ref11_Value_s6, List.drop_eq_getElem_cons hlt]
    have h1 : (j : Int) < (rows.length : Int) := by omega
    have h0 : (0 : Int) ≤ (j : Int) := by omega
    rw [wrap_succ (by omega)]
    simp only [h1, h0, decide_true, cond_true, if_true, Int.toNat_natCast, getD_get hlt, look]
    cases hr : Row.S rows[j] 0 == v with
    | true => rfl
    | false => simp only [cond_false]; exact ih (j + 1) (by omega) f (by omega)
theorem ref11_Value_q {n : Nat} {v s : ByteArray} {b nl : Bool} {i : Int} {env : Rows} (hb : env.length < big) (hn : env.length < n) : ref11_Value_v n v b i s nl env = some (outC (value (v, b, i, s) env), ()) := by
  rw [ref11_Value_e]
  have hz := ref11_Value_loop (n := n) (nl := nl) (v := v) (s := s) (b := b) (i := i) hb env.length 0 (by omega) n hn
  rw [show ((0 : Nat) : Int) = 0 from rfl, List.drop_zero] at hz
  unfold value
  simp only [hz, ref11_none_q, obind_some]
  cases nilT (v, b, i, s) with
  | true => rfl
  | false =>
    simp only [cond_false]
    cases v == noS with
    | true => rfl
    | false => rfl
theorem ref11_Unify_q {n : Nat} {v s cs : ByteArray} {b cb nl : Bool} {i ci : Int} {env : Rows} (hb : env.length ≤ 1000000) (hn : env.length < n) :
    ∃ nl', ref11_Unify_v n v b i s cb ci cs nl env = some (outR nl' (unify (v, b, i, s) (cb, ci, cs) env), ()) := by
  rw [ref11_Unify_e]
  have h1 : env.length * 48 ≤ 140737488355328 := by omega
  have h2 : (env.length + 1) * 48 ≤ 140737488355328 := by omega
  simp only [ref11_Value_q (show env.length < big by unfold big; omega) hn, ref11_none_q, obind_some, h1, h2, if_true, appX, List.nil_append, List.length_cons, List.length_nil, Nat.zero_add, Bool.false_and]
  unfold unify
  cases hv : value (v, b, i, s) env with
  | some d =>
    simp only [outC, cond_true]
    cases hs : sameC d (cb, ci, cs) with
    | true =>
      unfold sameC at hs
      simp only [hs, cond_true]
      exact ⟨false, rfl⟩
    | false =>
      unfold sameC at hs
      simp only [hs, cond_false]
      exact ⟨true, rfl⟩
  | none =>
    simp only [outC, cond_false]
    cases hn : nilT (v, b, i, s) with
    | true => exact ⟨true, rfl⟩
    | false => exact ⟨false, rfl⟩
end Go.Den
/- Literals; what is light; MatchLiterals. -/
namespace Go.Den
open Go.Proofs
theorem match_text_q (n : Nat) (s : ByteArray) : match_text_v n s = some ((false, (0, (s, ()))), ()) := match_text_e n s
theorem ref11_Name_q (n : Nat) (s : ByteArray) : ref11_Name_v n s = some ((false, (0, (s, ()))), ()) := ref11_Name_e n s
theorem match_or_q (n : Nat) (v s v' s' : ByteArray) (b b' : Bool) (i i' : Int) : match_or_v n v b i s v' b' i' s' =
    some (((orT (v, b, i, s) (v', b', i', s')).1, ((orT (v, b, i, s) (v', b', i', s')).2.1, ((orT (v, b, i, s) (v', b', i', s')).2.2.1, ((orT (v, b, i, s) (v', b', i', s')).2.2.2, ())))), ()) := by
  rw [match_or_e]
  unfold orT
  cases hn : nilT (v, b, i, s) with
  | true => unfold nilT at hn; simp only [hn, cond_true]
  | false => unfold nilT at hn; simp only [hn, cond_false]
section
variable {n : Nat} {s0 s3 s4 s7 s8 s11 s14 s15 s16 s17 : ByteArray} {b1 b5 b9 b12 b18 b20 : Bool} {j2 j6 j13 : Int} {r10 r19 r21 : Rows}
theorem match_Literal_no {nl : Bool} {e : Rows} {q : Nat} (hb : r10.length < big) {f : Nat} (hf : 0 < f) :
    match_Literal_l10 n s0 b1 j2 s3 s4 b5 j6 s7 s8 b9 r10 s11 b12 j13 s14 s15 s16 s17 b18 r19 b20 r21 f nl e false (q : Int) = some (outR true none, ()) := by
  obtain ⟨f, rfl⟩ : ∃ m, f = m + 1 := ⟨f - 1, by omega⟩
  rw [match_Literal_s10]
  have h0 : (0 : Int) ≤ (q : Int) := by omega
  by_cases h1 : (q : Int) < (r10.length : Int)
  · simp only [h1, h0, decide_true, cond_true, if_true, Bool.not_false]; rfl
  · simp only [h1, decide_false, cond_false, Bool.not_false, cond_true]; rfl
theorem match_Literal_loop (hb : r10.length ≤ 1000) (hl : r10.length = r19.length) :
    ∀ k q : Nat, q + k = r10.length → ∀ f nl e, k < f → e.length + k ≤ 100000 → e.length + k < n → (nl = true → e = []) →
    ∃ nl', match_Literal_l10 n s0 b1 j2 s3 s4 b5 j6 s7 s8 b9 r10 s11 b12 j13 s14 s15 s16 s17 b18 r19 b20 r21 f nl e true (q : Int) = some (outR nl' (unifs (r10.drop q) (r19.drop q) e), ()) ∧ (nl' = true → ∀ z, unifs (r10.drop q) (r19.drop q) e = some z → z = []) := by
  intro k
  induction k with
  | zero =>
    intro q hq f nl e hf he hn hw
    obtain ⟨f, rfl⟩ : ∃ m, f = m + 1 := ⟨f - 1, by omega⟩
    rw [match_Literal_s10, List.drop_eq_nil_of_le (by omega)]
    have h1 : ¬ ((q : Int) < (r10.length : Int)) := by omega
    simp only [h1, decide_false, cond_false, Bool.not_true, unifs]
    exact ⟨nl, rfl, fun h z hz => by cases hz; exact hw h⟩
  | succ k ih =>
    intro q hq f nl e hf he hn hw
    obtain ⟨f, rfl⟩ : ∃ m, f = m + 1 := ⟨f - 1, by omega⟩
    have hlt : q < r10.length := by omega
    have hlt2 : q < r19.length := by omega
    rw [match_Literal_s10, List.drop_eq_getElem_cons hlt, List.drop_eq_getElem_cons hlt2]
    have h1 : (q : Int) < (r10.length : Int) := by omega
    have h2 : (q : Int) < (r19.length : Int) := by omega
    have h0 : (0 : Int) ≤ (q : Int) := by omega
    rw [wrap_succ (show q < big by unfold big; omega)]
    obtain ⟨nl1, hu, hw1⟩ := match_Unify_q (n := n) (v := Row.S r10[q] 0) (b := Row.B r10[q] 1) (i := Row.I r10[q] 2) (s := Row.S r10[q] 3) (cb := Row.B r19[q] 0) (ci := Row.I r19[q] 1) (cs := Row.S r19[q] 2) (nl := nl) (env := e) (by omega) (by omega) hw
    simp only [h1, h2, h0, decide_true, cond_true, if_true, Bool.not_true, cond_false, Int.toNat_natCast, getD_get hlt, getD_get hlt2, hu, obind_some, unifs, tmAt, cnAt]
    simp only [Nat.zero_add]
    cases hy : unify (Row.S r10[q] 0, Row.B r10[q] 1, Row.I r10[q] 2, Row.S r10[q] 3) (Row.B r19[q] 0, Row.I r19[q] 1, Row.S r19[q] 2) e with
    | none =>
      simp only [outR]
      refine ⟨true, match_Literal_no (by unfold big; omega) (by omega), fun h z hz => by cases hz⟩
    | some e1 =>
      simp only [outR]
      have := unify_len hy
      exact ih (q + 1) (by omega) f nl1 e1 (by omega) (by omega) (by omega) (fun h => hw1 h e1 hy)
theorem match_Literal_q (ha : r10.length ≤ 1000) (he : r21.length ≤ 50000) (hn : 100000 < n) (hw : b20 = true → r21 = []) :
    ∃ nl', match_Literal_v n s0 b1 j2 s3 s4 b5 j6 s7 s8 b9 r10 s11 b12 j13 s14 s15 s16 s17 b18 r19 b20 r21 = some (outR nl' (lit (s0, b1, j2, s3) (s4, b5, j6, s7) (s11, b12, j13, s14) s8 r10 s15 s16 s17 r19 r21), ()) ∧
      (nl' = true → ∀ z, lit (s0, b1, j2, s3) (s4, b5, j6, s7) (s11, b12, j13, s14) s8 r10 s15 s16 s17 r19 r21 = some z → z = []) := by
  rw [match_Literal_e]
  unfold lit
  cases hp : !(s8 == s17) with
  | true => simp only [cond_true]; exact ⟨true, rfl, fun h z hz => by cases hz⟩
  | false =>
  simp only [cond_false]
  cases hl : (r10.length : Int) != (r19.length : Int) with
  | true => simp only [cond_true]; exact ⟨true, rfl, fun h z hz => by cases hz⟩
  | false =>
  simp only [cond_false]
  have hlen : r10.length = r19.length := by
    have h : (r10.length : Int) = (r19.length : Int) := by simpa using hl
    omega
  obtain ⟨nl1, hu, hw1⟩ := match_Unify_q (n := n) (v := (orT (s11, b12, j13, s14) (s0, b1, j2, s3)).1) (b := (orT (s11, b12, j13, s14) (s0, b1, j2, s3)).2.1) (i := (orT (s11, b12, j13, s14) (s0, b1, j2, s3)).2.2.1) (s := (orT (s11, b12, j13, s14) (s0, b1, j2, s3)).2.2.2) (cb := false) (ci := 0) (cs := s15) (nl := b20) (env := r21) (by omega) (by omega) hw
  simp only [match_or_q, match_text_q, obind_some, hu]
  have e1 : ((orT (s11, b12, j13, s14) (s0, b1, j2, s3)).1, (orT (s11, b12, j13, s14) (s0, b1, j2, s3)).2.1, (orT (s11, b12, j13, s14) (s0, b1, j2, s3)).2.2.1, (orT (s11, b12, j13, s14) (s0, b1, j2, s3)).2.2.2) = orT (s11, b12, j13, s14) (s0, b1, j2, s3) := rfl
  rw [e1] at hw1 ⊢
  have e2 : ((false, 0, s15) : Cn) = txt s15 := rfl
  rw [e2] at hw1 ⊢
  cases hy : unify (orT (s11, b12, j13, s14) (s0, b1, j2, s3)) (txt s15) r21 with
  | none => exact ⟨true, rfl, fun h z hz => by cases hz⟩
  | some e =>
  have hle := unify_len hy
  have hwe := fun h => hw1 h e hy
  simp only [outR, Bool.not_true, cond_false]
  unfold saidBy
  cases hnb : nilT (s4, b5, j6, s7) with
  | true =>
    have hnb' := hnb
    unfold nilT at hnb'
    simp only at hnb'
    simp only [hnb', cond_true]
    cases hs : s16 == s15 with
    | true =>
      simp only [cond_true]
      exact match_Literal_loop ha hlen r10.length 0 (by omega) n nl1 e (by omega) (by omega) (by omega) hwe
    | false =>
      simp only [cond_false]
      exact ⟨true, match_Literal_no (q := 0) (by unfold big; omega) (by omega), fun h z hz => by cases hz⟩
  | false =>
    have hnb' := hnb
    unfold nilT at hnb'
    simp only at hnb'
    simp only [hnb', cond_false]
    obtain ⟨nl2, hu2, hw2⟩ := match_Unify_q (n := n) (v := s4) (b := b5) (i := j6) (s := s7) (cb := false) (ci := 0) (cs := s16) (nl := nl1) (env := e) (by omega) (by omega) hwe
    rw [hu2]
    have e3 : ((false, 0, s16) : Cn) = txt s16 := rfl
    rw [e3] at hw2 ⊢
    cases hy2 : unify (s4, b5, j6, s7) (txt s16) e with
    | none =>
      simp only [outR, obind_some]
      exact ⟨true, match_Literal_no (q := 0) (by unfold big; omega) (by omega), fun h z hz => by cases hz⟩
    | some e2 =>
      have := unify_len hy2
      simp only [outR, obind_some]
      exact match_Literal_loop ha hlen r10.length 0 (by omega) n nl2 e2 (by omega) (by omega) (by omega) (fun h => hw2 h e2 hy2)
theorem ref_Literal_loop (hb : r10.length ≤ 1000) (hl : r10.length = r19.length) :
    ∀ k q : Nat, q + k = r10.length → ∀ f nl e, k < f → e.length + k ≤ 100000 → e.length + k < n →
    ∃ nl', ref11_Literal_l16 n s0 b1 j2 s3 s4 b5 j6 s7 s8 b9 r10 s11 b12 j13 s14 s15 s16 s17 b18 r19 b20 r21 f nl e (q : Int) = some (outR nl' (unifs (r10.drop q) (r19.drop q) e), ()) := by
  intro k
  induction k with
  | zero =>
    intro q hq f nl e hf he hn
    obtain ⟨f, rfl⟩ : ∃ m, f = m + 1 := ⟨f - 1, by omega⟩
    rw [ref11_Literal_s16, List.drop_eq_nil_of_le (by omega)]
    have h1 : ¬ ((q : Int) < (r10.length : Int)) := by omega
    simp only [h1, decide_false, cond_false, unifs]
    exact ⟨nl, rfl⟩
  | succ k ih =>
    intro q hq f nl e hf he hn
    obtain ⟨f, rfl⟩ : ∃ m, f = m + 1 := ⟨f - 1, by omega⟩
    have hlt : q < r10.length := by omega
    have hlt2 : q < r19.length := by omega
    rw [ref11_Literal_s16, List.drop_eq_getElem_cons hlt, List.drop_eq_getElem_cons hlt2]
    have h1 : (q : Int) < (r10.length : Int) := by omega
    have h2 : (q : Int) < (r19.length : Int) := by omega
    have h0 : (0 : Int) ≤ (q : Int) := by omega
    rw [wrap_succ (show q < big by unfold big; omega)]
    obtain ⟨nl1, hu⟩ := ref11_Unify_q (n := n) (v := Row.S r10[q] 0) (b := Row.B r10[q] 1) (i := Row.I r10[q] 2) (s := Row.S r10[q] 3) (cb := Row.B r19[q] 0) (ci := Row.I r19[q] 1) (cs := Row.S r19[q] 2) (nl := nl) (env := e) (by omega) (by omega)
    simp only [h1, h2, h0, decide_true, cond_true, if_true, Int.toNat_natCast, getD_get hlt, getD_get hlt2, hu, obind_some, unifs, tmAt, cnAt]
    simp only [Nat.zero_add]
    cases hy : unify (Row.S r10[q] 0, Row.B r10[q] 1, Row.I r10[q] 2, Row.S r10[q] 3) (Row.B r19[q] 0, Row.I r19[q] 1, Row.S r19[q] 2) e with
    | none => exact ⟨true, rfl⟩
    | some e1 =>
      simp only [outR, Bool.not_true, cond_false]
      have := unify_len hy
      exact ih (q + 1) (by omega) f nl1 e1 (by omega) (by omega) (by omega)
theorem ref_Literal_q (ha : r10.length ≤ 1000) (he : r21.length ≤ 50000) (hn : 100000 < n) :
    ∃ nl', ref11_Literal_v n s0 b1 j2 s3 s4 b5 j6 s7 s8 b9 r10 s11 b12 j13 s14 s15 s16 s17 b18 r19 b20 r21 = some (outR nl' (lit (s0, b1, j2, s3) (s4, b5, j6, s7) (s11, b12, j13, s14) s8 r10 s15 s16 s17 r19 r21), ()) := by
  rw [ref11_Literal_e]
  unfold lit
  cases hp : !(s8 == s17) with
  | true => simp only [cond_true]; exact ⟨true, rfl⟩
  | false =>
  simp only [cond_false]
  cases hl : (r10.length : Int) != (r19.length : Int) with
  | true => simp only [cond_true]; exact ⟨true, rfl⟩
  | false =>
  simp only [cond_false, ref11_none_q, ref11_Name_q, obind_some]
  have hlen : r10.length = r19.length := by
    have h : (r10.length : Int) = (r19.length : Int) := by simpa using hl
    omega
  have e2 : ((false, 0, s15) : Cn) = txt s15 := rfl
  have rest : ∀ nl1 e, e.length ≤ r21.length + 1 → ∃ nl', (bif nilT (s4, b5, j6, s7) then bif !s16 == s15 then some (((true, []), false, ()), ()) else ref11_Literal_l16 n s0 b1 j2 s3 s4 b5 j6 s7 s8 b9 r10 s11 b12 j13 s14 s15 s16 s17 b18 r19 b20 r21 n nl1 e 0
      else obind (ref11_Unify_v n s4 b5 j6 s7 false 0 s16 nl1 e) fun y27 => bif !y27.fst.snd.fst then some (((true, []), false, ()), ()) else ref11_Literal_l16 n s0 b1 j2 s3 s4 b5 j6 s7 s8 b9 r10 s11 b12 j13 s14 s15 s16 s17 b18 r19 b20 r21 n y27.fst.fst.fst y27.fst.fst.snd 0) =
      some (outR nl' (match saidBy (s4, b5, j6, s7) s15 s16 e with
        | none => none
        | some e => unifs r10 r19 e), ()) := by
    intro nl1 e hle
    unfold saidBy
    cases nilT (s4, b5, j6, s7) with
    | true =>
      simp only [cond_true]
      cases hs : s16 == s15 with
      | true =>
        simp only [cond_true, Bool.not_true, cond_false]
        exact ref_Literal_loop ha hlen r10.length 0 (by omega) n nl1 e (by omega) (by omega) (by omega)
      | false => exact ⟨true, rfl⟩
    | false =>
      simp only [cond_false]
      obtain ⟨nl2, hu2⟩ := ref11_Unify_q (n := n) (v := s4) (b := b5) (i := j6) (s := s7) (cb := false) (ci := 0) (cs := s16) (nl := nl1) (env := e) (by omega) (by omega)
      rw [hu2]
      have e3 : ((false, 0, s16) : Cn) = txt s16 := rfl
      rw [e3]
      cases hy2 : unify (s4, b5, j6, s7) (txt s16) e with
      | none => exact ⟨true, rfl⟩
      | some e2 =>
        have := unify_len hy2
        simp only [outR, obind_some, Bool.not_true, cond_false]
        exact ref_Literal_loop ha hlen r10.length 0 (by omega) n nl2 e2 (by omega) (by omega) (by omega)
  unfold orT
  cases hno : nilT (s11, b12, j13, s14) with
  | true =>
    simp only [cond_true]
    obtain ⟨nl1, hu⟩ := ref11_Unify_q (n := n) (v := s0) (b := b1) (i := j2) (s := s3) (cb := false) (ci := 0) (cs := s15) (nl := b20) (env := r21) (by omega) (by omega)
    rw [hu, e2]
    cases hy : unify (s0, b1, j2, s3) (txt s15) r21 with
    | none => exact ⟨true, rfl⟩
    | some e => simp only [outR, obind_some, Bool.not_true, cond_false]; exact rest nl1 e (unify_len hy)
  | false =>
    simp only [cond_false]
    obtain ⟨nl1, hu⟩ := ref11_Unify_q (n := n) (v := s11) (b := b12) (i := j13) (s := s14) (cb := false) (ci := 0) (cs := s15) (nl := b20) (env := r21) (by omega) (by omega)
    rw [hu, e2]
    cases hy : unify (s11, b12, j13, s14) (txt s15) r21 with
    | none => exact ⟨true, rfl⟩
    | some e => simp only [outR, obind_some, Bool.not_true, cond_false]; exact rest nl1 e (unify_len hy)
end
end Go.Den
/- What is light; MatchLiterals. -/
namespace Go.Den
open Go.Proofs
theorem match_live (k : Nat) : law11_live_v (k + 64) = some (true, ()) := by kernel_rfl
theorem mlive_at {n : Nat} (h : 64 ≤ n) : law11_live_v n = some (true, ()) := by
  obtain ⟨k, rfl⟩ : ∃ k, n = k + 64 := ⟨n - 64, by omega⟩
  exact match_live k
def eqBind (a b : Row) : Bool := Row.S a 0 == Row.S b 0 && (Row.B a 1 == Row.B b 1 && (Row.I a 2 == Row.I b 2 && (Row.S a 3 == Row.S b 3 && true)))
def like : Rows → Rows → Bool
  | [], [] => true
  | a :: l, b :: m => eqBind a b && like l m
  | _, _ => false
theorem like_len : ∀ {a b : Rows}, like a b = true → a.length = b.length
  | [], [], _ => rfl
  | _ :: l, _ :: m, h => by simp only [like, Bool.and_eq_true] at h; simp [like_len h.2]
  | [], _ :: _, h => by simp [like] at h
  | _ :: _, [], h => by simp [like] at h
theorem like_refl : ∀ a : Rows, like a a = true
  | [] => rfl
  | r :: l => by simp [like, eqBind, like_refl l]
theorem ref11_Like_loop {n : Nat} {b0 b2 : Bool} {r1 r3 : Rows} (hb : r1.length < big) (hl : r1.length = r3.length) : ∀ k j : Nat, j + k = r1.length → ∀ i, k < i → ref11_Like_l4 n b0 r1 b2 r3 i (j : Int) = some (like (r1.drop j) (r3.drop j), ()) := by
  intro k
  induction k with
  | zero =>
    intro j hj i hi
    obtain ⟨i, rfl⟩ : ∃ z, i = z + 1 := ⟨i - 1, by omega⟩
    rw [ref11_Like_s4, List.drop_eq_nil_of_le (by omega), List.drop_eq_nil_of_le (by omega)]
    have h1 : ¬ ((j : Int) < (r1.length : Int)) := by omega
    simp only [h1, decide_false, cond_false, like]
  | succ k ih =>
    intro j hj i hi
    obtain ⟨i, rfl⟩ : ∃ z, i = z + 1 := ⟨i - 1, by omega⟩
    have hlt : j < r1.length := by omega
    have hlt2 : j < r3.length := by omega
    rw [ref11_Like_s4, List.drop_eq_getElem_cons hlt, List.drop_eq_getElem_cons hlt2]
    have h1 : (j : Int) < (r1.length : Int) := by omega
    have h2 : (j : Int) < (r3.length : Int) := by omega
    have h0 : (0 : Int) ≤ (j : Int) := by omega
    rw [wrap_succ (by omega), ih (j + 1) (by omega) i (by omega)]
    simp only [h1, h2, h0, decide_true, cond_true, if_true, Int.toNat_natCast, getD_get hlt, getD_get hlt2, like]
    cases hc : (Row.S r1[j] 0 == Row.S r3[j] 0 && (Row.B r1[j] 1 == Row.B r3[j] 1 && (Row.I r1[j] 2 == Row.I r3[j] 2 && (Row.S r1[j] 3 == Row.S r3[j] 3 && true)))) with
    | true => simp only [Bool.not_true, cond_false, eqBind, hc, Bool.true_and]
    | false => simp only [Bool.not_false, cond_true, eqBind, hc, Bool.false_and]
theorem ref11_Like_q {n : Nat} {b0 b2 : Bool} {r1 r3 : Rows} (hb : r1.length < big) (hn : r1.length < n) : ref11_Like_v n b0 r1 b2 r3 = some (like r1 r3, ()) := by
  rw [ref11_Like_e]
  by_cases hl : r1.length = r3.length
  · have h1 : ((r1.length : Int) != (r3.length : Int)) = false := by simp [hl]
    rw [h1]
    exact ref11_Like_loop hb hl r1.length 0 (by omega) n hn
  · have h1 : ((r1.length : Int) != (r3.length : Int)) = true := by simp; omega
    rw [h1]
    cases h : like r1 r3 with
    | false => rfl
    | true => exact absurd (like_len h) hl
section
variable {n : Nat} {s0 s3 s4 s7 s10 : ByteArray} {b1 b5 b8 b11 b13 b15 : Bool} {j2 j9 : Int} {r6 r12 r14 r16 : Rows}
@[reducible] def ruleRow (s0 : ByteArray) (b1 : Bool) (j2 : Int) (s3 s4 : ByteArray) (b5 : Bool) (r6 : Rows) (s7 : ByteArray) (b8 : Bool) (j9 : Int) (s10 : ByteArray) (b11 : Bool) (r12 : Rows) : Row :=
  [DV.val (Value.string s0), DV.val (Value.bool b1), DV.val (Value.int IntKind.i64 j2), DV.val (Value.string s3), DV.val (Value.string s4), DV.sl b5 [Kd.s, Kd.b, Kd.i IntKind.i64, Kd.s] r6, DV.val (Value.string s7), DV.val (Value.bool b8), DV.val (Value.int IntKind.i64 j9), DV.val (Value.string s10), DV.sl b11 [Kd.s, Kd.b, Kd.i IntKind.i64, Kd.s, Kd.s, Kd.sl [Kd.s, Kd.b, Kd.i IntKind.i64, Kd.s], Kd.s, Kd.b, Kd.i IntKind.i64, Kd.s] r12]
structure RuleFine (s0 : ByteArray) (j2 : Int) (s3 s4 : ByteArray) (b5 : Bool) (r6 : Rows) (s7 : ByteArray) (j9 : Int) (s10 : ByteArray) (b11 : Bool) (r12 : Rows) : Prop where
  h0 : s0.size ≤ reachBytes
  h2 : (Lit.int .i64 j2).wf = true
  h3 : s3.size ≤ reachBytes
  h4 : s4.size ≤ reachBytes
  h6 : Fsl b5 kT r6
  h7 : s7.size ≤ reachBytes
  h9 : (Lit.int .i64 j9).wf = true
  h10 : s10.size ≤ reachBytes
  h12 : Fsl b11 kL r12
theorem ruleFine_rows (h : RuleFine s0 j2 s3 s4 b5 r6 s7 j9 s10 b11 r12) : RowsFine kR [ruleRow s0 b1 j2 s3 s4 b5 r6 s7 b8 j9 s10 b11 r12] :=
  ⟨rfl, ⟨h.h0, trivial, h.h2, h.h3, h.h4, h.h6, h.h7, trivial, h.h9, h.h10, h.h12, trivial⟩, trivial⟩
theorem light_q (hr : RuleFine s0 j2 s3 s4 b5 r6 s7 j9 s10 b11 r12) (hf : RowsFine kF r14) (hfl : r14.length ≤ reachBytes) (hn : r12.length < n) (hn2 : ∀ r ∈ r14, (Row.R r 3).length < n) (hn3 : r14.length < n) (hn1 : 1 < n) :
    ∃ b, law11_light_v n s0 b1 j2 s3 s4 b5 r6 s7 b8 j9 s10 b11 r12 b13 r14 b15 r16 = some (b, ()) ∧ (b = true → r6.length ≤ 200 ∧ r12.length ≤ 200 ∧ (∀ q ∈ r12, (Row.R q 5).length ≤ 200) ∧ r14.length ≤ 200 ∧ (∀ r ∈ r14, (Row.R r 3).length ≤ 200) ∧ r16.length ≤ 200) := by
  rw [law11_light_e]
  have h5 := ruleFine_rows (b1 := b1) (b8 := b8) hr
  have w5 := weight5_q (n := n) (b0 := false) (most := 200) (by omega) (by omega) h5 (by simp [reachBytes]) (fun r hr' => by
    rcases List.mem_singleton.1 hr' with rfl
    exact hn) (by simpa using hn1)
  have w4 := weight4_q (n := n) (b0 := b13) (most := 200) (by omega) (by omega) hf hfl hn2 hn3
  simp only [w5, w4, obind_some]
  by_cases c1 : weight5 200 [ruleRow s0 b1 j2 s3 s4 b5 r6 s7 b8 j9 s10 b11 r12] 0 ≤ 200
  · have a5 := weight5_all _ 0 h5 (by omega) c1
    obtain ⟨d1, d2, d3⟩ := a5.2 _ (List.mem_singleton.2 rfl)
    simp only [c1, decide_true, cond_true]
    by_cases c2 : weight4 200 r14 0 ≤ 200
    · have a4 := weight4_all _ 0 hf (by omega) c2
      simp only [c2, decide_true, cond_true]
      refine ⟨_, rfl, fun hb => ?_⟩
      have hb := of_decide_eq_true hb
      have d1' : (r6.length : Int) ≤ 200 := d1
      have d2' : (r12.length : Int) ≤ 200 := d2
      refine ⟨by omega, by omega, fun q hq => ?_, by omega, fun r hr' => ?_, by omega⟩
      · have := d3 q hq; omega
      · have := a4.2 r hr'; omega
    · simp only [c2, decide_false, cond_false]
      exact ⟨false, rfl, fun h => by cases h⟩
  · simp only [c1, decide_false, cond_false]
    exact ⟨false, rfl, fun h => by cases h⟩
end
theorem factRow_fine {s14 s15 s16 : ByteArray} {b : Bool} {r : Rows} (h1 : s14.size ≤ reachBytes) (h2 : s15.size ≤ reachBytes) (h3 : s16.size ≤ reachBytes) (h4 : Fsl b kC r) (l : Rows) (hl : RowsFine kF l) :
    RowsFine kF ([DV.val (Value.string s14), DV.val (Value.string s15), DV.val (Value.string s16), DV.sl b [Kd.b, Kd.i IntKind.i64, Kd.s] r] :: l) := ⟨rfl, ⟨h1, h2, h3, h4, trivial⟩, hl⟩
theorem law11_MatchLiterals_pure (s0 : ByteArray) (b1 : Bool) (j2 : Int) (s3 s4 : ByteArray) (b5 : Bool) (r6 : Rows) (s7 : ByteArray) (b8 : Bool) (j9 : Int) (s10 : ByteArray) (b11 : Bool) (r12 : Rows) (s13 s14 s15 : ByteArray) (b16 : Bool) (r17 : Rows) (b18 : Bool) (r19 : Rows)
    (h0 : s0.size ≤ reachBytes) (h2 : (Lit.int .i64 j2).wf = true) (h3 : s3.size ≤ reachBytes) (h4 : s4.size ≤ reachBytes) (h6 : Fsl b5 kT r6) (h7 : s7.size ≤ reachBytes) (h9 : (Lit.int .i64 j9).wf = true) (h10 : s10.size ≤ reachBytes) (h12 : Fsl b11 kL r12)
    (h13 : s13.size ≤ reachBytes) (h14 : s14.size ≤ reachBytes) (h15 : s15.size ≤ reachBytes) (h17 : Fsl b16 kC r17) (h19 : Fsl b18 kT r19) : ∃ n, law11_MatchLiterals_v n s0 b1 j2 s3 s4 b5 r6 s7 b8 j9 s10 b11 r12 s13 s14 s15 b16 r17 b18 r19 = some (true, ()) := by
  refine ⟨1000000 + r12.length + r17.length, ?_⟩
  generalize hN : 1000000 + r12.length + r17.length = n
  rw [law11_MatchLiterals_e]
  have hfr := factRow_fine h13 h14 h15 h17 [] trivial
  obtain ⟨b, hb, hl⟩ := light_q (n := n) (b1 := b1) (b8 := b8) (b13 := false) (b15 := b18) (r16 := r19) ⟨h0, h2, h3, h4, h6, h7, h9, h10, h12⟩ hfr (by simp [reachBytes]) (by omega)
    (fun r hr' => by rcases List.mem_singleton.1 hr' with rfl; show r17.length < n; omega) (by simp; omega) (by omega)
  rw [hb]
  simp only [obind_some, mlive_at (n := n) (by omega)]
  cases b with
  | false => rfl
  | true =>
  obtain ⟨g1, g2, g3, _, _, g6⟩ := hl rfl
  simp only [Bool.not_true, cond_false]
  cases h0' : (r12.length : Int) == 0 with
  | true => rfl
  | false =>
  have hpos : 0 < r12.length := by
    have : ¬ (r12.length : Int) = 0 := by simpa using h0'
    omega
  have hpos' : (0 : Int) < (r12.length : Int) := by omega
  have ha := g3 _ (getD_mem hpos)
  simp only [cond_false, hpos', if_true]
  obtain ⟨nl1, e1, _⟩ := match_Literal_q (n := n) (s0 := s0) (b1 := b1) (j2 := j2) (s3 := s3) (s4 := Row.S (r12.getD 0 []) 0) (b5 := Row.B (r12.getD 0 []) 1) (j6 := Row.I (r12.getD 0 []) 2) (s7 := Row.S (r12.getD 0 []) 3) (s8 := Row.S (r12.getD 0 []) 4) (b9 := Row.N (r12.getD 0 []) 5) (r10 := Row.R (r12.getD 0 []) 5) (s11 := Row.S (r12.getD 0 []) 6) (b12 := Row.B (r12.getD 0 []) 7) (j13 := Row.I (r12.getD 0 []) 8) (s14 := Row.S (r12.getD 0 []) 9) (s15 := s13) (s16 := s14) (s17 := s15) (b18 := b16) (r19 := r17) (b20 := b18) (r21 := r19) (by omega) (by omega) (by omega) h19.2.1
  obtain ⟨nl2, e2⟩ := ref_Literal_q (n := n) (s0 := s0) (b1 := b1) (j2 := j2) (s3 := s3) (s4 := Row.S (r12.getD 0 []) 0) (b5 := Row.B (r12.getD 0 []) 1) (j6 := Row.I (r12.getD 0 []) 2) (s7 := Row.S (r12.getD 0 []) 3) (s8 := Row.S (r12.getD 0 []) 4) (b9 := Row.N (r12.getD 0 []) 5) (r10 := Row.R (r12.getD 0 []) 5) (s11 := Row.S (r12.getD 0 []) 6) (b12 := Row.B (r12.getD 0 []) 7) (j13 := Row.I (r12.getD 0 []) 8) (s14 := Row.S (r12.getD 0 []) 9) (s15 := s13) (s16 := s14) (s17 := s15) (b18 := b16) (r19 := r17) (b20 := b18) (r21 := r19) (by omega) (by omega) (by omega)
  rw [e1, e2]
  simp only [obind_some]
  cases hy : lit (s0, b1, j2, s3) (Row.S (r12.getD 0 []) 0, Row.B (r12.getD 0 []) 1, Row.I (r12.getD 0 []) 2, Row.S (r12.getD 0 []) 3) (Row.S (r12.getD 0 []) 6, Row.B (r12.getD 0 []) 7, Row.I (r12.getD 0 []) 8, Row.S (r12.getD 0 []) 9) (Row.S (r12.getD 0 []) 4) (Row.R (r12.getD 0 []) 5) s13 s14 s15 r17 r19 with
  | none =>
    simp only [outR, ref11_Like_q (n := n) (r1 := []) (r3 := []) (by unfold big; simp) (by simp; omega), like_refl, obind_some, cond_true, beq_self_eq_true]
  | some e =>
    have := lit_len hy
    simp only [outR, ref11_Like_q (n := n) (r1 := e) (r3 := e) (by unfold big; omega) (by omega), like_refl, obind_some, cond_true, beq_self_eq_true]
end Go.Den
/- Heads and bodies; MatchHeads. -/
namespace Go.Den
open Go.Proofs
def nameS (t : Tm) (env : Rows) : Option ByteArray :=
  match value t env with
  | some c => bif sameC c (txt c.2.2) then some c.2.2 else none
  | none => none
@[reducible] def cRow (c : Cn) : Row := [.val (.bool c.1), .val (.int .i64 c.2.1), .val (.string c.2.2)]
def valuesS (env : Rows) : Rows → Option Rows
  | [] => some []
  | t :: l => match value (tmAt t 0) env with
    | some c => match valuesS env l with
      | some r => some (cRow c :: r)
      | none => none
    | none => none
theorem valuesS_len {env : Rows} : ∀ {l r : Rows}, valuesS env l = some r → r.length = l.length
  | [], r, h => by cases h; rfl
  | t :: l, r, h => by
    unfold valuesS at h
    split at h
    · split at h
      · rename_i r' h'
        cases h
        simp [valuesS_len h']
      · cases h
    · cases h
theorem match_name_q {n : Nat} {v s : ByteArray} {b nl : Bool} {i : Int} {env : Rows} (hb : env.length < big) (hn : env.length < n) :
    ∃ z, match_name_v n v b i s nl env = some ((z, ((nameS (v, b, i, s) env).isSome, ())), ()) ∧ ∀ x, nameS (v, b, i, s) env = some x → z = x := by
  rw [match_name_e]
  simp only [match_Value_q hb hn, match_text_q, obind_some]
  unfold nameS
  cases value (v, b, i, s) env with
  | none => exact ⟨noS, rfl, fun x h => by cases h⟩
  | some c =>
    simp only [outC, cond_true]
    cases hs : sameC c (txt c.2.2) with
    | true => unfold sameC txt at hs; simp only at hs; exact ⟨c.2.2, by simp only [hs, cond_true]; rfl, fun x h => by cases h; rfl⟩
    | false => unfold sameC txt at hs; simp only at hs; exact ⟨c.2.2, by simp only [hs, cond_false]; rfl, fun x h => by cases h⟩
theorem ref11_name_q {n : Nat} {v s : ByteArray} {b nl : Bool} {i : Int} {env : Rows} (hb : env.length < big) (hn : env.length < n) :
    ∃ z, ref11_name_v n v b i s nl env = some ((z, ((nameS (v, b, i, s) env).isSome, ())), ()) ∧ ∀ x, nameS (v, b, i, s) env = some x → z = x := by
  rw [ref11_name_e]
  simp only [ref11_Value_q hb hn, ref11_Name_q, obind_some]
  unfold nameS
  cases value (v, b, i, s) env with
  | none => exact ⟨noS, rfl, fun x h => by cases h⟩
  | some c =>
    simp only [outC, Bool.not_true, cond_false]
    cases hs : sameC c (txt c.2.2) with
    | true => unfold sameC txt at hs; simp only at hs; exact ⟨c.2.2, by simp only [hs, Bool.not_true, cond_true, cond_false]; rfl, fun x h => by cases h; rfl⟩
    | false => unfold sameC txt at hs; simp only at hs; exact ⟨noS, by simp only [hs, Bool.not_false, cond_true, cond_false]; rfl, fun x h => by cases h⟩
def outV (nl : Bool) (acc : Rows) : Option Rows → (Bool × Rows) × Bool × Unit
  | some l => ((nl && l.isEmpty, acc ++ l), (true, ()))
  | none => ((true, []), (false, ()))
theorem match_values_loop {n : Nat} {b0 b2 : Bool} {r1 env : Rows} (hb : env.length < big) (hn : env.length < n) (h1b : r1.length ≤ 100000) :
    ∀ k q : Nat, q + k = r1.length → ∀ f nl acc, k < f → acc.length + k ≤ 200000 → match_values_l3 n b0 r1 b2 env f nl acc (q : Int) = some (outV nl acc (valuesS env (r1.drop q)), ()) := by
  intro k
  induction k with
  | zero =>
    intro q hq f nl acc hf ha
    obtain ⟨f, rfl⟩ : ∃ z, f = z + 1 := ⟨f - 1, by omega⟩
    rw [match_values_s3, List.drop_eq_nil_of_le (by omega)]
    have h1 : ¬ ((q : Int) < (r1.length : Int)) := by omega
    simp only [h1, decide_false, cond_false, valuesS, outV, List.isEmpty_nil, Bool.and_true, List.append_nil]
  | succ k ih =>
    intro q hq f nl acc hf ha
    obtain ⟨f, rfl⟩ : ∃ z, f = z + 1 := ⟨f - 1, by omega⟩
    have hlt : q < r1.length := by omega
    have h1 : (q : Int) < (r1.length : Int) := by omega
    have h0 : (0 : Int) ≤ (q : Int) := by omega
    have hl : (acc.length + 1) * 32 ≤ 140737488355328 := by omega
    rw [match_values_s3, List.drop_eq_getElem_cons hlt, wrap_succ (show q < big by unfold big; omega)]
    simp only [h1, h0, decide_true, cond_true, if_true, Int.toNat_natCast, getD_get hlt, match_Value_q hb hn, obind_some, valuesS, tmAt, Nat.zero_add, List.length_cons, List.length_nil, hl, appX, List.isEmpty_cons, Bool.and_false]
    cases hv : value (Row.S r1[q] 0, Row.B r1[q] 1, Row.I r1[q] 2, Row.S r1[q] 3) env with
    | none => rfl
    | some c =>
      simp only [outC, Bool.not_true, cond_false]
      rw [ih (q + 1) (by omega) f false _ (by omega) (by simp only [List.length_append, List.length_cons, List.length_nil]; omega)]
      cases valuesS env (r1.drop (q + 1)) with
      | none => rfl
      | some l => simp [outV]
theorem match_values_q {n : Nat} {b0 b2 : Bool} {r1 env : Rows} (hb : env.length < big) (hn : env.length < n) (h1b : r1.length ≤ 100000) (hn1 : r1.length < n) : match_values_v n b0 r1 b2 env = some (outV true [] (valuesS env r1), ()) := by
  rw [match_values_e]
  exact match_values_loop hb hn h1b r1.length 0 (by omega) n true [] hn1 (by simp only [List.length_nil]; omega)
theorem ref11_values_loop {n : Nat} {b0 b2 : Bool} {r1 env : Rows} (hb : env.length < big) (hn : env.length < n) (h1b : r1.length ≤ 100000) :
    ∀ k q : Nat, q + k = r1.length → ∀ f nl acc, k < f → acc.length + k ≤ 200000 → ref11_values_l3 n b0 r1 b2 env f nl acc (q : Int) = some (outV nl acc (valuesS env (r1.drop q)), ()) := by
  intro k
  induction k with
  | zero =>
    intro q hq f nl acc hf ha
    obtain ⟨f, rfl⟩ : ∃ z, f = z + 1 := ⟨f - 1, by omega⟩
    rw [ref11_values_s3, List.drop_eq_nil_of_le (by omega)]
    have h1 : ¬ ((q : Int) < (r1.length : Int)) := by omega
    simp only [h1, decide_false, cond_false, valuesS, outV, List.isEmpty_nil, Bool.and_true, List.append_nil]
  | succ k ih =>
    intro q hq f nl acc hf ha
    obtain ⟨f, rfl⟩ : ∃ z, f = z + 1 := ⟨f - 1, by omega⟩
    have hlt : q < r1.length := by omega
    have h1 : (q : Int) < (r1.length : Int) := by omega
    have h0 : (0 : Int) ≤ (q : Int) := by omega
    have hl : (acc.length + 1) * 32 ≤ 140737488355328 := by omega
    rw [ref11_values_s3, List.drop_eq_getElem_cons hlt, wrap_succ (show q < big by unfold big; omega)]
    simp only [h1, h0, decide_true, cond_true, if_true, Int.toNat_natCast, getD_get hlt, ref11_Value_q hb hn, obind_some, valuesS, tmAt, Nat.zero_add, List.length_cons, List.length_nil, hl, appX, List.isEmpty_cons, Bool.and_false]
    cases hv : value (Row.S r1[q] 0, Row.B r1[q] 1, Row.I r1[q] 2, Row.S r1[q] 3) env with
    | none => rfl
    | some c =>
      simp only [outC, Bool.not_true, cond_false]
      rw [ih (q + 1) (by omega) f false _ (by omega) (by simp only [List.length_append, List.length_cons, List.length_nil]; omega)]
      cases valuesS env (r1.drop (q + 1)) with
      | none => rfl
      | some l => simp [outV]
theorem ref11_values_q {n : Nat} {b0 b2 : Bool} {r1 env : Rows} (hb : env.length < big) (hn : env.length < n) (h1b : r1.length ≤ 100000) (hn1 : r1.length < n) : ref11_values_v n b0 r1 b2 env = some (outV true [] (valuesS env r1), ()) := by
  rw [ref11_values_e]
  exact ref11_values_loop hb hn h1b r1.length 0 (by omega) n true [] hn1 (by simp only [List.length_nil]; omega)
/-! heads -/
def headS (home to : Tm) (pred : ByteArray) (args env : Rows) : Option Fc :=
  match nameS home env with
  | none => none
  | some by_ => match nameS (orT to home) env with
    | none => none
    | some at_ => match valuesS env args with
      | none => none
      | some l => some (at_, by_, pred, l)
abbrev HeadOut := Option (((ByteArray × ByteArray × ByteArray × (Bool × Rows) × Unit) × Bool × Unit) × Unit)
def outH : Option Fc → HeadOut
  | some f => some (((f.1, (f.2.1, (f.2.2.1, ((f.2.2.2.isEmpty, f.2.2.2), ())))), (true, ())), ())
  | none => some (((noS, (noS, (noS, ((true, []), ())))), (false, ())), ())
section
variable {n : Nat} {s0 s3 s4 s7 s10 : ByteArray} {b1 b5 b8 b11 b13 : Bool} {j2 j9 : Int} {r6 r12 r14 : Rows}
theorem match_Head_q (hb : r14.length < big) (hn : r14.length < n) (h6 : r6.length ≤ 100000) (hn6 : r6.length < n) :
    match_Head_v n s0 b1 j2 s3 s4 b5 r6 s7 b8 j9 s10 b11 r12 b13 r14 = outH (headS (s0, b1, j2, s3) (s7, b8, j9, s10) s4 r6 r14) := by
  rw [match_Head_e]
  obtain ⟨z1, e1, g1⟩ := match_name_q (n := n) (v := s0) (b := b1) (i := j2) (s := s3) (nl := b13) hb hn
  obtain ⟨z2, e2, g2⟩ := match_name_q (n := n) (v := (orT (s7, b8, j9, s10) (s0, b1, j2, s3)).1) (b := (orT (s7, b8, j9, s10) (s0, b1, j2, s3)).2.1) (i := (orT (s7, b8, j9, s10) (s0, b1, j2, s3)).2.2.1) (s := (orT (s7, b8, j9, s10) (s0, b1, j2, s3)).2.2.2) (nl := b13) hb hn
  simp only [e1, match_or_q, e2, match_values_q hb hn h6 hn6, obind_some]
  have eo : ((orT (s7, b8, j9, s10) (s0, b1, j2, s3)).1, (orT (s7, b8, j9, s10) (s0, b1, j2, s3)).2.1, (orT (s7, b8, j9, s10) (s0, b1, j2, s3)).2.2.1, (orT (s7, b8, j9, s10) (s0, b1, j2, s3)).2.2.2) = orT (s7, b8, j9, s10) (s0, b1, j2, s3) := rfl
  rw [eo] at g2 ⊢
  unfold headS
  cases h1 : nameS (s0, b1, j2, s3) r14 with
  | none => rfl
  | some x1 =>
  obtain rfl := g1 x1 h1
  cases h2 : nameS (orT (s7, b8, j9, s10) (s0, b1, j2, s3)) r14 with
  | none => rfl
  | some x2 =>
  obtain rfl := g2 x2 h2
  cases valuesS r14 r6 with
  | none => rfl
  | some l => simp [outV, outH]
theorem ref11_Head_q (hb : r14.length < big) (hn : r14.length < n) (h6 : r6.length ≤ 100000) (hn6 : r6.length < n) :
    ref11_Head_v n s0 b1 j2 s3 s4 b5 r6 s7 b8 j9 s10 b11 r12 b13 r14 = outH (headS (s0, b1, j2, s3) (s7, b8, j9, s10) s4 r6 r14) := by
  rw [ref11_Head_e]
  obtain ⟨z1, e1, g1⟩ := ref11_name_q (n := n) (v := s0) (b := b1) (i := j2) (s := s3) (nl := b13) hb hn
  obtain ⟨z2, e2, g2⟩ := ref11_name_q (n := n) (v := s7) (b := b8) (i := j9) (s := s10) (nl := b13) hb hn
  simp only [e1, ref11_none_q, e2, ref11_values_q hb hn h6 hn6, obind_some]
  unfold headS orT
  cases hno : nilT (s7, b8, j9, s10) with
  | true =>
    simp only [cond_true]
    cases h1 : nameS (s0, b1, j2, s3) r14 with
    | none => rfl
    | some x1 =>
    obtain rfl := g1 x1 h1
    cases valuesS r14 r6 with
    | none => rfl
    | some l => simp [outV, outH]
  | false =>
    simp only [cond_false]
    cases h1 : nameS (s0, b1, j2, s3) r14 with
    | none => rfl
    | some x1 =>
    obtain rfl := g1 x1 h1
    cases h2 : nameS (s7, b8, j9, s10) r14 with
    | none => rfl
    | some x2 =>
    obtain rfl := g2 x2 h2
    cases valuesS r14 r6 with
    | none => rfl
    | some l => simp [outV, outH]
/-! bodies -/
@[reducible] def fRow (f : Fc) : Row := [.val (.string f.1), .val (.string f.2.1), .val (.string f.2.2.1), .sl f.2.2.2.isEmpty [Kd.b, Kd.i IntKind.i64, Kd.s] f.2.2.2]
def bodyOne (home : Tm) (env : Rows) (r : Row) : Option Fc :=
  match nameS (orT (tmAt r 6) home) env with
  | none => none
  | some at_ => match nameS (orT (tmAt r 0) (orT (tmAt r 6) home)) env with
    | none => none
    | some by_ => match valuesS env (Row.R r 5) with
      | none => none
      | some l => some (at_, by_, Row.S r 4, l)
def bodyS (home : Tm) (env : Rows) : Rows → Option Rows
  | [] => some []
  | r :: l => match bodyOne home env r with
    | none => none
    | some f => match bodyS home env l with
      | none => none
      | some m => some (fRow f :: m)
theorem match_Body_loop (hb : r14.length < big) (hn : r14.length < n) (h12 : r12.length ≤ 100000) (ha : ∀ r ∈ r12, (Row.R r 5).length ≤ 100000 ∧ (Row.R r 5).length < n) :
    ∀ k q : Nat, q + k = r12.length → ∀ f nl acc, k < f → acc.length + k ≤ 200000 → match_Body_l3 n s0 b1 j2 s3 s4 b5 r6 s7 b8 j9 s10 b11 r12 b13 r14 f nl acc (q : Int) = some (outV nl acc (bodyS (s0, b1, j2, s3) r14 (r12.drop q)), ()) := by
  intro k
  induction k with
  | zero =>
    intro q hq f nl acc hf hacc
    obtain ⟨f, rfl⟩ : ∃ z, f = z + 1 := ⟨f - 1, by omega⟩
    rw [match_Body_s3, List.drop_eq_nil_of_le (by omega)]
    have h1 : ¬ ((q : Int) < (r12.length : Int)) := by omega
    simp only [h1, decide_false, cond_false, bodyS, outV, List.isEmpty_nil, Bool.and_true, List.append_nil]
  | succ k ih =>
    intro q hq f nl acc hf hacc
    obtain ⟨f, rfl⟩ : ∃ z, f = z + 1 := ⟨f - 1, by omega⟩
    have hlt : q < r12.length := by omega
    have h1 : (q : Int) < (r12.length : Int) := by omega
    have h0 : (0 : Int) ≤ (q : Int) := by omega
    have hl : (acc.length + 1) * 72 ≤ 140737488355328 := by omega
    have hr := ha _ (List.getElem_mem hlt)
    rw [match_Body_s3, List.drop_eq_getElem_cons hlt, wrap_succ (show q < big by unfold big; omega)]
    simp only [h1, h0, decide_true, cond_true, if_true, Int.toNat_natCast, getD_get hlt, match_or_q, obind_some, match_values_q hb hn hr.1 hr.2]
    have eo : ∀ t : Tm, (t.1, t.2.1, t.2.2.1, t.2.2.2) = t := fun t => rfl
    obtain ⟨z1, e1, g1⟩ := match_name_q (n := n) (v := (orT (tmAt r12[q] 6) (s0, b1, j2, s3)).1) (b := (orT (tmAt r12[q] 6) (s0, b1, j2, s3)).2.1) (i := (orT (tmAt r12[q] 6) (s0, b1, j2, s3)).2.2.1) (s := (orT (tmAt r12[q] 6) (s0, b1, j2, s3)).2.2.2) (nl := b13) hb hn
    obtain ⟨z2, e2, g2⟩ := match_name_q (n := n) (v := (orT (tmAt r12[q] 0) (orT (tmAt r12[q] 6) (s0, b1, j2, s3))).1) (b := (orT (tmAt r12[q] 0) (orT (tmAt r12[q] 6) (s0, b1, j2, s3))).2.1) (i := (orT (tmAt r12[q] 0) (orT (tmAt r12[q] 6) (s0, b1, j2, s3))).2.2.1) (s := (orT (tmAt r12[q] 0) (orT (tmAt r12[q] 6) (s0, b1, j2, s3))).2.2.2) (nl := b13) hb hn
    rw [eo] at g1 g2 e1 e2
    have m6 : (Row.S r12[q] 6, Row.B r12[q] 7, Row.I r12[q] 8, Row.S r12[q] 9) = tmAt r12[q] 6 := rfl
    have m0 : (Row.S r12[q] 0, Row.B r12[q] 1, Row.I r12[q] 2, Row.S r12[q] 3) = tmAt r12[q] 0 := rfl
    rw [m6]
    rw [e1]
    simp only [obind_some, eo, m0]
    rw [e2]
    simp only [obind_some, bodyS, bodyOne]
    cases h1' : nameS (orT (tmAt r12[q] 6) (s0, b1, j2, s3)) r14 with
    | none => rfl
    | some x1 =>
    obtain rfl := g1 x1 h1'
    cases h2' : nameS (orT (tmAt r12[q] 0) (orT (tmAt r12[q] 6) (s0, b1, j2, s3))) r14 with
    | none => rfl
    | some x2 =>
    obtain rfl := g2 x2 h2'
    cases hv : valuesS r14 (Row.R r12[q] 5) with
    | none => rfl
    | some l =>
      simp only [outV, Option.isSome_some, Bool.not_true, cond_false, List.length_cons, List.length_nil, Nat.zero_add, hl, if_true, appX, List.isEmpty_cons, Bool.and_false, List.nil_append, Bool.true_and]
      rw [ih (q + 1) (by omega) f false _ (by omega) (by simp only [List.length_append, List.length_cons, List.length_nil]; omega)]
      cases bodyS (s0, b1, j2, s3) r14 (r12.drop (q + 1)) with
      | none => rfl
      | some m => simp [outV]
theorem match_Body_q (hb : r14.length < big) (hn : r14.length < n) (h12 : r12.length ≤ 100000) (hn12 : r12.length < n) (ha : ∀ r ∈ r12, (Row.R r 5).length ≤ 100000 ∧ (Row.R r 5).length < n) :
    match_Body_v n s0 b1 j2 s3 s4 b5 r6 s7 b8 j9 s10 b11 r12 b13 r14 = some (outV true [] (bodyS (s0, b1, j2, s3) r14 r12), ()) := by
  rw [match_Body_e]
  exact match_Body_loop hb hn h12 ha r12.length 0 (by omega) n true [] hn12 (by simp only [List.length_nil]; omega)
end
end Go.Den
/- The document's bodies; MatchHeads. -/
namespace Go.Den
open Go.Proofs
section
variable {n : Nat} {s0 s3 s4 s7 s10 : ByteArray} {b1 b5 b8 b11 b13 : Bool} {j2 j9 : Int} {r6 r12 r14 : Rows}
theorem ref11_Body_loop (hb : r14.length < big) (hn : r14.length < n) (h12 : r12.length ≤ 100000) (ha : ∀ r ∈ r12, (Row.R r 5).length ≤ 100000 ∧ (Row.R r 5).length < n) :
    ∀ k q : Nat, q + k = r12.length → ∀ f nl acc, k < f → acc.length + k ≤ 200000 → ref11_Body_l3 n s0 b1 j2 s3 s4 b5 r6 s7 b8 j9 s10 b11 r12 b13 r14 f nl acc (q : Int) = some (outV nl acc (bodyS (s0, b1, j2, s3) r14 (r12.drop q)), ()) := by
  intro k
  induction k with
  | zero =>
    intro q hq f nl acc hf hacc
    obtain ⟨f, rfl⟩ : ∃ z, f = z + 1 := ⟨f - 1, by omega⟩
    rw [ref11_Body_s3, List.drop_eq_nil_of_le (by omega)]
    have h1 : ¬ ((q : Int) < (r12.length : Int)) := by omega
    simp only [h1, decide_false, cond_false, bodyS, outV, List.isEmpty_nil, Bool.and_true, List.append_nil]
  | succ k ih =>
    intro q hq f nl acc hf hacc
    obtain ⟨f, rfl⟩ : ∃ z, f = z + 1 := ⟨f - 1, by omega⟩
    have hlt : q < r12.length := by omega
    have h1 : (q : Int) < (r12.length : Int) := by omega
    have h0 : (0 : Int) ≤ (q : Int) := by omega
    have hl : (acc.length + 1) * 72 ≤ 140737488355328 := by omega
    have hr := ha _ (List.getElem_mem hlt)
    have m6 : (Row.S r12[q] 6, Row.B r12[q] 7, Row.I r12[q] 8, Row.S r12[q] 9) = tmAt r12[q] 6 := rfl
    have m0 : (Row.S r12[q] 0, Row.B r12[q] 1, Row.I r12[q] 2, Row.S r12[q] 3) = tmAt r12[q] 0 := rfl
    obtain ⟨zh, eh, gh⟩ := ref11_name_q (n := n) (v := s0) (b := b1) (i := j2) (s := s3) (nl := b13) hb hn
    obtain ⟨za, ea, ga⟩ := ref11_name_q (n := n) (v := Row.S r12[q] 6) (b := Row.B r12[q] 7) (i := Row.I r12[q] 8) (s := Row.S r12[q] 9) (nl := b13) hb hn
    obtain ⟨zb, eb, gb⟩ := ref11_name_q (n := n) (v := Row.S r12[q] 0) (b := Row.B r12[q] 1) (i := Row.I r12[q] 2) (s := Row.S r12[q] 3) (nl := b13) hb hn
    rw [m6] at ga ea
    rw [m0] at gb eb
    have ihq := ih (q + 1) (by omega) f false
    have fin : ∀ (za zb : ByteArray) (p w : Tm), (∀ x, nameS p r14 = some x → za = x) → (∀ x, nameS w r14 = some x → zb = x) →
        (bif !(nameS p r14).isSome then some (((true, []), (false, ())), ()) else bif !(nameS w r14).isSome then some (((true, []), (false, ())), ()) else bif !(outV true [] (valuesS r14 (Row.R r12[q] 5))).snd.fst then some (((true, []), (false, ())), ())
          else if (acc.length + 1) * 72 ≤ 140737488355328 then ref11_Body_l3 n s0 b1 j2 s3 s4 b5 r6 s7 b8 j9 s10 b11 r12 b13 r14 f false (acc ++ [[DV.val (Value.string za), DV.val (Value.string zb), DV.val (Value.string (Row.S r12[q] 4)), DV.sl (outV true [] (valuesS r14 (Row.R r12[q] 5))).fst.fst [Kd.b, Kd.i IntKind.i64, Kd.s] (outV true [] (valuesS r14 (Row.R r12[q] 5))).fst.snd]]) ((q + 1 : Nat) : Int) else none) =
        some (outV nl acc (match (match nameS p r14 with
          | none => none
          | some at_ => match nameS w r14 with
            | none => none
            | some by_ => match valuesS r14 (Row.R r12[q] 5) with
              | none => none
              | some l => some ((at_, by_, Row.S r12[q] 4, l) : Fc)) with
          | none => none
          | some f => match bodyS (s0, b1, j2, s3) r14 (r12.drop (q + 1)) with
            | none => none
            | some m => some (fRow f :: m)), ()) := by
      intro za zb p w h1 h2
      cases hp : nameS p r14 with
      | none => rfl
      | some x1 =>
      obtain rfl := h1 x1 hp
      cases hw : nameS w r14 with
      | none => rfl
      | some x2 =>
      obtain rfl := h2 x2 hw
      cases hv : valuesS r14 (Row.R r12[q] 5) with
      | none => rfl
      | some l =>
        simp only [outV, Option.isSome_some, Bool.not_true, cond_false, hl, if_true, List.nil_append, Bool.true_and]
        rw [ihq _ (by omega) (by simp only [List.length_append, List.length_cons, List.length_nil]; omega)]
        cases bodyS (s0, b1, j2, s3) r14 (r12.drop (q + 1)) with
        | none => rfl
        | some m => simp [outV]
    rw [ref11_Body_s3, List.drop_eq_getElem_cons hlt, wrap_succ (show q < big by unfold big; omega)]
    simp only [h1, h0, decide_true, cond_true, if_true, Int.toNat_natCast, getD_get hlt, obind_some, ref11_none_q, ref11_values_q hb hn hr.1 hr.2, eh, ea, eb, m6, m0, List.length_cons, List.length_nil, Nat.zero_add, appX, List.isEmpty_cons, Bool.and_false, bodyS, bodyOne]
    cases hA : nilT (tmAt r12[q] 6) with
    | true =>
      have o6 : orT (tmAt r12[q] 6) (s0, b1, j2, s3) = (s0, b1, j2, s3) := by unfold orT; rw [hA]; rfl
      simp only [cond_true, o6]
      cases hB : nilT (tmAt r12[q] 0) with
      | true =>
        have o0 : orT (tmAt r12[q] 0) (s0, b1, j2, s3) = (s0, b1, j2, s3) := by unfold orT; rw [hB]; rfl
        simp only [cond_true, o0]
        exact fin zh zh _ _ gh gh
      | false =>
        have o0 : orT (tmAt r12[q] 0) (s0, b1, j2, s3) = tmAt r12[q] 0 := by unfold orT; rw [hB]; rfl
        simp only [cond_false, o0]
        exact fin zh zb _ _ gh gb
    | false =>
      have o6 : orT (tmAt r12[q] 6) (s0, b1, j2, s3) = tmAt r12[q] 6 := by unfold orT; rw [hA]; rfl
      simp only [cond_false, o6]
      cases hB : nilT (tmAt r12[q] 0) with
      | true =>
        have o0 : orT (tmAt r12[q] 0) (tmAt r12[q] 6) = tmAt r12[q] 6 := by unfold orT; rw [hB]; rfl
        simp only [cond_true, o0]
        exact fin za za _ _ ga ga
      | false =>
        have o0 : orT (tmAt r12[q] 0) (tmAt r12[q] 6) = tmAt r12[q] 0 := by unfold orT; rw [hB]; rfl
        simp only [cond_false, o0]
        exact fin za zb _ _ ga gb
theorem ref11_Body_q (hb : r14.length < big) (hn : r14.length < n) (h12 : r12.length ≤ 100000) (hn12 : r12.length < n) (ha : ∀ r ∈ r12, (Row.R r 5).length ≤ 100000 ∧ (Row.R r 5).length < n) :
    ref11_Body_v n s0 b1 j2 s3 s4 b5 r6 s7 b8 j9 s10 b11 r12 b13 r14 = some (outV true [] (bodyS (s0, b1, j2, s3) r14 r12), ()) := by
  rw [ref11_Body_e]
  exact ref11_Body_loop hb hn h12 ha r12.length 0 (by omega) n true [] hn12 (by simp only [List.length_nil]; omega)
end
theorem headS_len {home to : Tm} {pred : ByteArray} {args env : Rows} {f : Fc} (h : headS home to pred args env = some f) : f.2.2.2.length = args.length := by
  unfold headS at h
  split at h
  · cases h
  · split at h
    · cases h
    · split at h
      · cases h
      · rename_i l hl
        cases h
        exact valuesS_len hl
theorem bodyS_fine {home : Tm} {env : Rows} : ∀ {l m : Rows}, bodyS home env l = some m → m.length = l.length ∧ ∀ b, (∀ r ∈ l, (Row.R r 5).length ≤ b) → ∀ r ∈ m, (Row.R r 3).length ≤ b
  | [], m, h => by cases h; exact ⟨rfl, fun _ _ r hr => by cases hr⟩
  | r :: l, m, h => by
    unfold bodyS at h
    split at h
    · cases h
    · rename_i f hf
      split at h
      · cases h
      · rename_i m' hm
        cases h
        obtain ⟨i1, i2⟩ := bodyS_fine hm
        refine ⟨by simp [i1], fun b hb q hq => ?_⟩
        rcases List.mem_cons.1 hq with rfl | hq
        · have : f.2.2.2.length = (Row.R r 5).length := by
            unfold bodyOne at hf
            split at hf
            · cases hf
            · split at hf
              · cases hf
              · split at hf
                · cases hf
                · rename_i l' hl'
                  cases hf
                  exact valuesS_len hl'
          show f.2.2.2.length ≤ b
          rw [this]; exact hb r List.mem_cons_self
        · exact i2 b (fun x hx => hb x (List.mem_cons_of_mem _ hx)) q hq
theorem law11_MatchHeads_pure (s0 : ByteArray) (b1 : Bool) (j2 : Int) (s3 s4 : ByteArray) (b5 : Bool) (r6 : Rows) (s7 : ByteArray) (b8 : Bool) (j9 : Int) (s10 : ByteArray) (b11 : Bool) (r12 : Rows) (b13 : Bool) (r14 : Rows)
    (h0 : s0.size ≤ reachBytes) (h2 : (Lit.int .i64 j2).wf = true) (h3 : s3.size ≤ reachBytes) (h4 : s4.size ≤ reachBytes) (h6 : Fsl b5 kT r6) (h7 : s7.size ≤ reachBytes) (h9 : (Lit.int .i64 j9).wf = true) (h10 : s10.size ≤ reachBytes) (h12 : Fsl b11 kL r12)
    (h14 : Fsl b13 kT r14) : ∃ n, law11_MatchHeads_v n s0 b1 j2 s3 s4 b5 r6 s7 b8 j9 s10 b11 r12 b13 r14 = some (true, ()) := by
  refine ⟨1000000 + r12.length, ?_⟩
  generalize hN : 1000000 + r12.length = n
  rw [law11_MatchHeads_e]
  obtain ⟨b, hb, hl⟩ := light_q (n := n) (b1 := b1) (b8 := b8) (b13 := true) (r14 := []) (b15 := b13) (r16 := r14) ⟨h0, h2, h3, h4, h6, h7, h9, h10, h12⟩ trivial (by simp [reachBytes]) (by omega)
    (fun r hr' => by cases hr') (by simp; omega) (by omega)
  rw [hb]
  simp only [obind_some, mlive_at (n := n) (by omega)]
  cases b with
  | false => rfl
  | true =>
  obtain ⟨g1, g2, g3, _, _, g6⟩ := hl rfl
  simp only [Bool.not_true, cond_false]
  have hbig : r14.length < big := by unfold big; omega
  have ha : ∀ r ∈ r12, (Row.R r 5).length ≤ 100000 ∧ (Row.R r 5).length < n := fun r hr => by have := g3 r hr; omega
  rw [match_Head_q hbig (by omega) (by omega) (by omega), ref11_Head_q hbig (by omega) (by omega) (by omega), match_Body_q hbig (by omega) (by omega) (by omega) ha, ref11_Body_q hbig (by omega) (by omega) (by omega) ha]
  have body : ∀ k : Bool → Option (Bool × Unit), (obind (some (outV true [] (bodyS (s0, b1, j2, s3) r14 r12), ())) fun (y19 : ((Bool × Rows) × Bool × Unit) × Unit) => obind (some (outV true [] (bodyS (s0, b1, j2, s3) r14 r12), ())) fun (y20 : ((Bool × Rows) × Bool × Unit) × Unit) =>
      obind (ref04_Like_v n y19.fst.fst.fst y19.fst.fst.snd y20.fst.fst.fst y20.fst.fst.snd) fun y22 => k y22.fst) = k true := by
    intro k
    simp only [obind_some]
    cases hB : bodyS (s0, b1, j2, s3) r14 r12 with
    | none => simp only [outV, ref04_Like_q (n := n) (r1 := []) (r3 := []) (by unfold big; simp) (by simp; omega) (fun r hr => by cases hr), likeF_refl, obind_some]
    | some m =>
      obtain ⟨i1, i2⟩ := bodyS_fine hB
      have i3 := i2 200 (fun r hr => g3 r hr)
      simp only [outV, List.nil_append, ref04_Like_q (n := n) (r1 := m) (r3 := m) (by unfold big; omega) (by omega) (fun r hr => by have := i3 r hr; unfold big; omega), likeF_refl, obind_some]
  cases hH : headS (s0, b1, j2, s3) (s7, b8, j9, s10) s4 r6 r14 with
  | none =>
    simp only [outH, obind_some, ref04_Order_q (n := n) (r4 := []) (r9 := []) (by unfold big; simp) (by simp; omega), ordF_refl, beq_self_eq_true, cond_true]
    cases hB : bodyS (s0, b1, j2, s3) r14 r12 with
    | none => simp only [outV, ref04_Like_q (n := n) (r1 := []) (r3 := []) (by unfold big; simp) (by simp; omega) (fun r hr => by cases hr), likeF_refl, obind_some, cond_true, beq_self_eq_true]
    | some m =>
      obtain ⟨i1, i2⟩ := bodyS_fine hB
      have i3 := i2 200 (fun r hr => g3 r hr)
      simp only [outV, List.nil_append, ref04_Like_q (n := n) (r1 := m) (r3 := m) (by unfold big; omega) (by omega) (fun r hr => by have := i3 r hr; unfold big; omega), likeF_refl, obind_some, cond_true, beq_self_eq_true]
  | some f =>
    have hf := headS_len hH
    simp only [outH, obind_some, ref04_Order_q (n := n) (r4 := f.2.2.2) (r9 := f.2.2.2) (by unfold big; omega) (by omega), ordF_refl, beq_self_eq_true, cond_true]
    cases hB : bodyS (s0, b1, j2, s3) r14 r12 with
    | none => simp only [outV, ref04_Like_q (n := n) (r1 := []) (r3 := []) (by unfold big; simp) (by simp; omega) (fun r hr => by cases hr), likeF_refl, obind_some, cond_true, beq_self_eq_true]
    | some m =>
      obtain ⟨i1, i2⟩ := bodyS_fine hB
      have i3 := i2 200 (fun r hr => g3 r hr)
      simp only [outV, List.nil_append, ref04_Like_q (n := n) (r1 := m) (r3 := m) (by unfold big; omega) (by omega) (fun r hr => by have := i3 r hr; unfold big; omega), likeF_refl, obind_some, cond_true, beq_self_eq_true]
end Go.Den
/- MatchFollows. -/
namespace Go.Den
open Go.Proofs
def litAt (home : Tm) (r f : Row) (env : Rows) : Option Rows := lit home (tmAt r 0) (tmAt r 6) (Row.S r 4) (Row.R r 5) (Row.S f 0) (Row.S f 1) (Row.S f 2) (Row.R f 3) env
def litsS (home : Tm) : Rows → Rows → Rows → Option Rows
  | r :: l, f :: m, env => match litAt home r f env with
    | some e => litsS home l m e
    | none => none
  | _, _, env => some env
def endS (home to : Tm) (pred : ByteArray) (args env : Rows) (d : Fc) : Bool :=
  match headS home to pred args env with
  | some f => ordF f d == 0
  | none => false
def followsS (home to : Tm) (pred : ByteArray) (args body : Rows) (d : Fc) (db : Rows) : Bool :=
  match unify home (txt d.2.1) [] with
  | none => false
  | some e => bif (body.length : Int) != (db.length : Int) then false else
    match litsS home body db e with
    | none => false
    | some e => endS home to pred args e d
section
variable {n : Nat} {s0 s3 s4 s7 s10 s14 s15 s16 : ByteArray} {b1 b5 b8 b11 b17 b19 : Bool} {j2 j9 j13 : Int} {r6 r12 r18 r20 : Rows}
theorem match_Follows_loop (hn : 100000 < n) (h6 : r6.length ≤ 200) (h12 : r12.length ≤ 200) (ha : ∀ r ∈ r12, (Row.R r 5).length ≤ 200) (h18 : r18.length < n) (hl : r12.length = r20.length) :
    ∀ k q : Nat, q + k = r12.length → ∀ f nl e, k < f → e.length ≤ 1 + q * 202 → (nl = true → e = []) →
    match_Follows_l5 n s0 b1 j2 s3 s4 b5 r6 s7 b8 j9 s10 b11 r12 j13 s14 s15 s16 b17 r18 b19 r20 f nl e (q : Int) =
      some ((match litsS (s0, b1, j2, s3) (r12.drop q) (r20.drop q) e with
        | none => false
        | some e => endS (s0, b1, j2, s3) (s7, b8, j9, s10) s4 r6 e (s14, s15, s16, r18)), ()) := by
  intro k
  induction k with
  | zero =>
    intro q hq f nl e hf he hw
    obtain ⟨f, rfl⟩ : ∃ z, f = z + 1 := ⟨f - 1, by omega⟩
    rw [match_Follows_s5, List.drop_eq_nil_of_le (by omega)]
    have h1 : ¬ ((q : Int) < (r12.length : Int)) := by omega
    simp only [h1, decide_false, cond_false, litsS]
    rw [match_Head_q (by unfold big; omega) (by omega) (by omega) (by omega)]
    unfold endS
    cases hh : headS (s0, b1, j2, s3) (s7, b8, j9, s10) s4 r6 e with
    | none => rfl
    | some g =>
      have hg := headS_len hh
      simp only [outH, obind_some, cond_true]
      rw [fact_Order_q (by unfold big; omega) (by omega) (by omega)]
      rfl
  | succ k ih =>
    intro q hq f nl e hf he hw
    obtain ⟨f, rfl⟩ : ∃ z, f = z + 1 := ⟨f - 1, by omega⟩
    have hlt : q < r12.length := by omega
    have hlt2 : q < r20.length := by omega
    rw [match_Follows_s5, List.drop_eq_getElem_cons hlt, List.drop_eq_getElem_cons hlt2]
    have h1 : (q : Int) < (r12.length : Int) := by omega
    have h2 : (q : Int) < (r20.length : Int) := by omega
    have h0 : (0 : Int) ≤ (q : Int) := by omega
    have har := ha _ (List.getElem_mem hlt)
    rw [wrap_succ (show q < big by unfold big; omega)]
    obtain ⟨nl1, e1, w1⟩ := match_Literal_q (n := n) (s0 := s0) (b1 := b1) (j2 := j2) (s3 := s3) (s4 := Row.S r12[q] 0) (b5 := Row.B r12[q] 1) (j6 := Row.I r12[q] 2) (s7 := Row.S r12[q] 3) (s8 := Row.S r12[q] 4) (b9 := Row.N r12[q] 5) (r10 := Row.R r12[q] 5) (s11 := Row.S r12[q] 6) (b12 := Row.B r12[q] 7) (j13 := Row.I r12[q] 8) (s14 := Row.S r12[q] 9) (s15 := Row.S r20[q] 0) (s16 := Row.S r20[q] 1) (s17 := Row.S r20[q] 2) (b18 := Row.N r20[q] 3) (r19 := Row.R r20[q] 3) (b20 := nl) (r21 := e) (by omega) (by omega) hn hw
    simp only [h1, h2, h0, decide_true, cond_true, if_true, Int.toNat_natCast, getD_get hlt, getD_get hlt2, e1, obind_some, litsS]
    have m : lit (s0, b1, j2, s3) (Row.S r12[q] 0, Row.B r12[q] 1, Row.I r12[q] 2, Row.S r12[q] 3) (Row.S r12[q] 6, Row.B r12[q] 7, Row.I r12[q] 8, Row.S r12[q] 9) (Row.S r12[q] 4) (Row.R r12[q] 5) (Row.S r20[q] 0) (Row.S r20[q] 1) (Row.S r20[q] 2) (Row.R r20[q] 3) e = litAt (s0, b1, j2, s3) r12[q] r20[q] e := rfl
    rw [m] at w1 ⊢
    cases hy : litAt (s0, b1, j2, s3) r12[q] r20[q] e with
    | none => rfl
    | some e2 =>
      have hle := lit_len hy
      simp only [outR, Bool.not_true, cond_false]
      exact ih (q + 1) (by omega) f nl1 e2 (by omega) (by omega) (fun h => w1 h e2 hy)
theorem ref11_Follows_loop (hn : 100000 < n) (h6 : r6.length ≤ 200) (h12 : r12.length ≤ 200) (ha : ∀ r ∈ r12, (Row.R r 5).length ≤ 200) (h18 : r18.length < n) (hl : r12.length = r20.length) :
    ∀ k q : Nat, q + k = r12.length → ∀ f nl e, k < f → e.length ≤ 1 + q * 202 →
    ref11_Follows_l5 n s0 b1 j2 s3 s4 b5 r6 s7 b8 j9 s10 b11 r12 j13 s14 s15 s16 b17 r18 b19 r20 f nl e (q : Int) =
      some ((match litsS (s0, b1, j2, s3) (r12.drop q) (r20.drop q) e with
        | none => false
        | some e => endS (s0, b1, j2, s3) (s7, b8, j9, s10) s4 r6 e (s14, s15, s16, r18)), ()) := by
  intro k
  induction k with
  | zero =>
    intro q hq f nl e hf he
    obtain ⟨f, rfl⟩ : ∃ z, f = z + 1 := ⟨f - 1, by omega⟩
    rw [ref11_Follows_s5, List.drop_eq_nil_of_le (by omega)]
    have h1 : ¬ ((q : Int) < (r12.length : Int)) := by omega
    simp only [h1, decide_false, cond_false, litsS]
    rw [ref11_Head_q (by unfold big; omega) (by omega) (by omega) (by omega)]
    unfold endS
    cases hh : headS (s0, b1, j2, s3) (s7, b8, j9, s10) s4 r6 e with
    | none => rfl
    | some g =>
      have hg := headS_len hh
      simp only [outH, obind_some, cond_true]
      rw [ref04_Order_q (by unfold big; omega) (by omega)]
      rfl
  | succ k ih =>
    intro q hq f nl e hf he
    obtain ⟨f, rfl⟩ : ∃ z, f = z + 1 := ⟨f - 1, by omega⟩
    have hlt : q < r12.length := by omega
    have hlt2 : q < r20.length := by omega
    rw [ref11_Follows_s5, List.drop_eq_getElem_cons hlt, List.drop_eq_getElem_cons hlt2]
    have h1 : (q : Int) < (r12.length : Int) := by omega
    have h2 : (q : Int) < (r20.length : Int) := by omega
    have h0 : (0 : Int) ≤ (q : Int) := by omega
    have har := ha _ (List.getElem_mem hlt)
    rw [wrap_succ (show q < big by unfold big; omega)]
    obtain ⟨nl1, e1⟩ := ref_Literal_q (n := n) (s0 := s0) (b1 := b1) (j2 := j2) (s3 := s3) (s4 := Row.S r12[q] 0) (b5 := Row.B r12[q] 1) (j6 := Row.I r12[q] 2) (s7 := Row.S r12[q] 3) (s8 := Row.S r12[q] 4) (b9 := Row.N r12[q] 5) (r10 := Row.R r12[q] 5) (s11 := Row.S r12[q] 6) (b12 := Row.B r12[q] 7) (j13 := Row.I r12[q] 8) (s14 := Row.S r12[q] 9) (s15 := Row.S r20[q] 0) (s16 := Row.S r20[q] 1) (s17 := Row.S r20[q] 2) (b18 := Row.N r20[q] 3) (r19 := Row.R r20[q] 3) (b20 := nl) (r21 := e) (by omega) (by omega) hn
    simp only [h1, h2, h0, decide_true, cond_true, if_true, Int.toNat_natCast, getD_get hlt, getD_get hlt2, e1, obind_some, litsS]
    have m : lit (s0, b1, j2, s3) (Row.S r12[q] 0, Row.B r12[q] 1, Row.I r12[q] 2, Row.S r12[q] 3) (Row.S r12[q] 6, Row.B r12[q] 7, Row.I r12[q] 8, Row.S r12[q] 9) (Row.S r12[q] 4) (Row.R r12[q] 5) (Row.S r20[q] 0) (Row.S r20[q] 1) (Row.S r20[q] 2) (Row.R r20[q] 3) e = litAt (s0, b1, j2, s3) r12[q] r20[q] e := rfl
    rw [m]
    cases hy : litAt (s0, b1, j2, s3) r12[q] r20[q] e with
    | none => rfl
    | some e2 =>
      have hle := lit_len hy
      simp only [outR, Bool.not_true, cond_false]
      exact ih (q + 1) (by omega) f nl1 e2 (by omega) (by omega)
theorem match_Follows_q (hn : 100000 < n) (h6 : r6.length ≤ 200) (h12 : r12.length ≤ 200) (ha : ∀ r ∈ r12, (Row.R r 5).length ≤ 200) (h18 : r18.length < n) :
    match_Follows_v n s0 b1 j2 s3 s4 b5 r6 s7 b8 j9 s10 b11 r12 j13 s14 s15 s16 b17 r18 b19 r20 = some (followsS (s0, b1, j2, s3) (s7, b8, j9, s10) s4 r6 r12 (s14, s15, s16, r18) r20, ()) := by
  rw [match_Follows_e]
  obtain ⟨nl1, hu, hw1⟩ := match_Unify_q (n := n) (v := s0) (b := b1) (i := j2) (s := s3) (cb := false) (ci := 0) (cs := s15) (nl := true) (env := []) (by simp) (by simp; omega) (fun _ => rfl)
  simp only [match_text_q, obind_some, hu]
  unfold followsS
  have e2 : ((false, 0, s15) : Cn) = txt s15 := rfl
  rw [e2] at hw1 ⊢
  cases hy : unify (s0, b1, j2, s3) (txt s15) [] with
  | none => rfl
  | some e =>
    have hle := unify_len hy
    simp only [List.length_nil] at hle
    simp only [outR, Bool.not_true, cond_false]
    cases hc : (r12.length : Int) != (r20.length : Int) with
    | true => rfl
    | false =>
      have hlen : r12.length = r20.length := by
        have h : (r12.length : Int) = (r20.length : Int) := by simpa using hc
        omega
      simp only [cond_false]
      exact match_Follows_loop hn h6 h12 ha h18 hlen r12.length 0 (by omega) n nl1 e (by omega) (by omega) (fun h => hw1 h e hy)
theorem ref11_Follows_q (hn : 100000 < n) (h6 : r6.length ≤ 200) (h12 : r12.length ≤ 200) (ha : ∀ r ∈ r12, (Row.R r 5).length ≤ 200) (h18 : r18.length < n) :
    ref11_Follows_v n s0 b1 j2 s3 s4 b5 r6 s7 b8 j9 s10 b11 r12 j13 s14 s15 s16 b17 r18 b19 r20 = some (followsS (s0, b1, j2, s3) (s7, b8, j9, s10) s4 r6 r12 (s14, s15, s16, r18) r20, ()) := by
  rw [ref11_Follows_e]
  obtain ⟨nl1, hu⟩ := ref11_Unify_q (n := n) (v := s0) (b := b1) (i := j2) (s := s3) (cb := false) (ci := 0) (cs := s15) (nl := true) (env := []) (by simp) (by simp; omega)
  simp only [ref11_Name_q, obind_some, hu]
  unfold followsS
  have e2 : ((false, 0, s15) : Cn) = txt s15 := rfl
  rw [e2]
  cases hy : unify (s0, b1, j2, s3) (txt s15) [] with
  | none => rfl
  | some e =>
    have hle := unify_len hy
    simp only [List.length_nil] at hle
    simp only [outR, Bool.not_true, cond_false]
    cases hc : (r12.length : Int) != (r20.length : Int) with
    | true => rfl
    | false =>
      have hlen : r12.length = r20.length := by
        have h : (r12.length : Int) = (r20.length : Int) := by simpa using hc
        omega
      simp only [cond_false]
      exact ref11_Follows_loop hn h6 h12 ha h18 hlen r12.length 0 (by omega) n nl1 e (by omega) (by omega)
end
theorem kbytes_kF : kbytes kF = 72 := by decide
theorem law11_MatchFollows_pure (s0 : ByteArray) (b1 : Bool) (j2 : Int) (s3 s4 : ByteArray) (b5 : Bool) (r6 : Rows) (s7 : ByteArray) (b8 : Bool) (j9 : Int) (s10 : ByteArray) (b11 : Bool) (r12 : Rows) (j13 : Int) (s14 s15 s16 : ByteArray) (b17 : Bool) (r18 : Rows) (b19 : Bool) (r20 : Rows)
    (h0 : s0.size ≤ reachBytes) (h2 : (Lit.int .i64 j2).wf = true) (h3 : s3.size ≤ reachBytes) (h4 : s4.size ≤ reachBytes) (h6 : Fsl b5 kT r6) (h7 : s7.size ≤ reachBytes) (h9 : (Lit.int .i64 j9).wf = true) (h10 : s10.size ≤ reachBytes) (h12 : Fsl b11 kL r12)
    (_h13 : (Lit.int .i64 j13).wf = true) (h14 : s14.size ≤ reachBytes) (h15 : s15.size ≤ reachBytes) (h16 : s16.size ≤ reachBytes) (h18 : Fsl b17 kC r18) (h20 : Fsl b19 kF r20) :
    ∃ n, law11_MatchFollows_v n s0 b1 j2 s3 s4 b5 r6 s7 b8 j9 s10 b11 r12 j13 s14 s15 s16 b17 r18 b19 r20 = some (true, ()) := by
  refine ⟨1000000 + r12.length + r18.length + r20.length + 140737488355328, ?_⟩
  generalize hN : 1000000 + r12.length + r18.length + r20.length + 140737488355328 = n
  rw [law11_MatchFollows_e]
  have hkb := h20.2.2.2
  rw [kbytes_kF] at hkb
  have c1 : (1 + r20.length) * 72 ≤ 140737488355328 := by unfold reachBytes at hkb; omega
  have hfr := factRow_fine h14 h15 h16 h18 r20 h20.2.2.1
  obtain ⟨b, hb, hl⟩ := light_q (n := n) (b1 := b1) (b8 := b8) (b13 := false && r20.isEmpty) (r14 := [[DV.val (Value.string s14), DV.val (Value.string s15), DV.val (Value.string s16), DV.sl b17 [Kd.b, Kd.i IntKind.i64, Kd.s] r18]] ++ r20) (b15 := true) (r16 := []) ⟨h0, h2, h3, h4, h6, h7, h9, h10, h12⟩ hfr
    (by simp only [List.singleton_append, List.length_cons]; unfold reachBytes at *; omega) (by omega)
    (fun r hr' => by
      rcases List.mem_cons.1 hr' with rfl | hr'
      · show r18.length < n; omega
      · have := (fineF (rowsFine_mem h20.2.2.1 hr')).1
        unfold reachBytes at this; omega)
    (by simp only [List.singleton_append, List.length_cons]; omega) (by omega)
  simp only [List.length_cons, List.length_nil, Nat.zero_add, c1, if_true, appX]
  rw [hb]
  simp only [obind_some, mlive_at (n := n) (by omega)]
  cases b with
  | false => rfl
  | true =>
  obtain ⟨g1, g2, g3, g4, g5, _⟩ := hl rfl
  simp only [Bool.not_true, cond_false]
  rw [match_Follows_q (by omega) g1 g2 g3 (by omega), ref11_Follows_q (by omega) g1 g2 g3 (by omega)]
  simp only [obind_some, beq_self_eq_true, cond_true]
end Go.Den
/- What a literal tells begins with the bindings that were there, and holds the fact. -/
namespace Go.Den
theorem look_app : ∀ {v : ByteArray} {env x : Rows} {c : Cn}, look v env = some c → look v (env ++ x) = some c
  | v, [], x, c, h => by cases h
  | v, r :: l, x, c, h => by
    rw [List.cons_append]
    unfold look at h ⊢
    cases hr : Row.S r 0 == v with
    | true => rw [hr] at h; exact h
    | false => rw [hr] at h; exact look_app h
theorem look_none_app : ∀ {v : ByteArray} {env : Rows} {c : Cn}, look v env = none → look v (env ++ [bindRow v c]) = some c
  | v, [], c, h => by
    show (bif Row.S (bindRow v c) 0 == v then some (Row.B (bindRow v c) 1, Row.I (bindRow v c) 2, Row.S (bindRow v c) 3) else none) = some c
    have : Row.S (bindRow v c) 0 = v := rfl
    rw [this, beq_self_eq_true]; rfl
  | v, r :: l, c, h => by
    rw [List.cons_append]
    unfold look at h ⊢
    cases hr : Row.S r 0 == v with
    | true => rw [hr] at h; cases h
    | false => rw [hr] at h; exact look_none_app h
theorem value_app {t : Tm} {env x : Rows} {c : Cn} (h : value t env = some c) : value t (env ++ x) = some c := by
  unfold value at h ⊢
  cases hn : nilT t with
  | true => rw [hn] at h; cases h
  | false =>
    rw [hn] at h
    simp only [cond_false] at h ⊢
    cases hv : t.1 == noS with
    | true => rw [hv] at h; exact h
    | false => rw [hv] at h; exact look_app h
theorem unify_some {t : Tm} {c : Cn} {env e : Rows} (h : unify t c env = some e) : (∃ x, e = env ++ x) ∧ value t e = some c := by
  unfold unify at h
  cases hv : value t env with
  | some d =>
    rw [hv] at h
    simp only at h
    cases hs : sameC d c with
    | true =>
      rw [hs] at h
      cases h
      obtain rfl := sameC_eq.1 hs
      exact ⟨⟨[], (List.append_nil _).symm⟩, hv⟩
    | false => rw [hs] at h; cases h
  | none =>
    rw [hv] at h
    simp only at h
    cases hn : nilT t with
    | true => rw [hn] at h; cases h
    | false =>
      rw [hn] at h
      cases h
      refine ⟨⟨_, rfl⟩, ?_⟩
      have hns := value_none hv hn
      unfold value at hv ⊢
      rw [hn, hns] at hv
      simp only [hn, hns, cond_false] at hv ⊢
      exact look_none_app hv
theorem unify_has {t : Tm} {c d : Cn} {a : Rows} (h : value t a = some c) : unify t d a = bif sameC c d then some a else none := by
  unfold unify; rw [h]
/-- the values of terms -/
def Vals (a : Rows) : Rows → Rows → Prop
  | [], [] => True
  | t :: l, c :: m => value (tmAt t 0) a = some (cnAt c) ∧ Vals a l m
  | _, _ => False
theorem Vals.app {a x : Rows} : ∀ {l m : Rows}, Vals a l m → Vals (a ++ x) l m
  | [], [], _ => trivial
  | t :: l, c :: m, h => ⟨value_app h.1, Vals.app h.2⟩
  | [], _ :: _, h => h.elim
  | _ :: _, [], h => h.elim
theorem unifs_some : ∀ {l m env e : Rows}, l.length = m.length → unifs l m env = some e → (∃ x, e = env ++ x) ∧ Vals e l m
  | [], [], env, e, _, h => by cases h; exact ⟨⟨[], (List.append_nil _).symm⟩, trivial⟩
  | t :: l, c :: m, env, e, hl, h => by
    unfold unifs at h
    split at h
    · rename_i e1 h1
      obtain ⟨⟨x, rfl⟩, hv⟩ := unify_some h1
      obtain ⟨⟨y, rfl⟩, hvs⟩ := unifs_some (by simpa using hl) h
      exact ⟨⟨x ++ y, List.append_assoc _ _ _⟩, value_app hv, hvs⟩
    · cases h
  | [], _ :: _, env, e, hl, h => by cases hl
  | _ :: _, [], env, e, hl, h => by cases hl
theorem unifs_has {a : Rows} : ∀ {l m m' : Rows}, Vals a l m → l.length = m'.length → (unifs l m' a = some a ∧ m.map cnAt = m'.map cnAt) ∨ (unifs l m' a = none ∧ ¬ m.map cnAt = m'.map cnAt)
  | [], [], [], _, _ => .inl ⟨rfl, rfl⟩
  | t :: l, c :: m, c' :: m', h, hl => by
    unfold unifs
    rw [unify_has h.1]
    cases hs : sameC (cnAt c) (cnAt c') with
    | true =>
      have := sameC_eq.1 hs
      simp only [cond_true]
      rcases unifs_has (m' := m') h.2 (by simpa using hl) with ⟨h1, h2⟩ | ⟨h1, h2⟩
      · exact .inl ⟨h1, by simp [this, h2]⟩
      · refine .inr ⟨h1, fun h3 => h2 ?_⟩
        simp only [List.map_cons, List.cons.injEq] at h3
        exact h3.2
    | false =>
      refine .inr ⟨rfl, fun h3 => ?_⟩
      simp only [List.map_cons, List.cons.injEq] at h3
      rw [sameC_eq.2 h3.1] at hs
      cases hs
  | [], _ :: _, _, h, _ => h.elim
  | _ :: _, [], _, h, _ => h.elim
  | [], [], _ :: _, _, hl => by cases hl
  | _ :: _, _ :: _, [], _, hl => by cases hl
theorem txt_inj {a b : ByteArray} : sameC (txt a) (txt b) = (a == b) := by
  unfold sameC txt
  simp
structure Held (home by_ at_ : Tm) (pred : ByteArray) (args : Rows) (f : Fc) (a : Rows) : Prop where
  pred : pred = f.2.2.1
  len : args.length = f.2.2.2.length
  at_ : value (orT at_ home) a = some (txt f.1)
  by_ : (nilT by_ = true ∧ f.2.1 = f.1) ∨ (nilT by_ = false ∧ value by_ a = some (txt f.2.1))
  args : Vals a args f.2.2.2
theorem lit_held {home by_ at_ : Tm} {pred : ByteArray} {args : Rows} {f : Fc} {env e : Rows} (h : lit home by_ at_ pred args f.1 f.2.1 f.2.2.1 f.2.2.2 env = some e) : (∃ x, e = env ++ x) ∧ Held home by_ at_ pred args f e := by
  unfold lit at h
  cases h1 : !(pred == f.2.2.1) with
  | true => rw [h1] at h; cases h
  | false =>
  rw [h1] at h
  simp only [cond_false] at h
  cases h2 : (args.length : Int) != (f.2.2.2.length : Int) with
  | true => rw [h2] at h; cases h
  | false =>
  rw [h2] at h
  simp only [cond_false] at h
  have hlen : args.length = f.2.2.2.length := by
    have h : (args.length : Int) = (f.2.2.2.length : Int) := by simpa using h2
    omega
  have hp : pred = f.2.2.1 := by simpa using h1
  split at h
  · cases h
  · rename_i e1 g1
    split at h
    · cases h
    · rename_i e2 g2
      obtain ⟨⟨x, rfl⟩, hv1⟩ := unify_some g1
      obtain ⟨⟨z, rfl⟩, hvs⟩ := unifs_some hlen h
      unfold saidBy at g2
      cases hn : nilT by_ with
      | true =>
        rw [hn] at g2
        simp only [cond_true] at g2
        cases hb : f.2.1 == f.1 with
        | true =>
          rw [hb] at g2
          cases g2
          exact ⟨⟨x ++ z, List.append_assoc _ _ _⟩, hp, hlen, value_app hv1, .inl ⟨hn, eq_of_beq hb⟩, hvs⟩
        | false => rw [hb] at g2; cases g2
      | false =>
        rw [hn] at g2
        obtain ⟨⟨y, rfl⟩, hv2⟩ := unify_some g2
        exact ⟨⟨x ++ (y ++ z), by simp [List.append_assoc]⟩, hp, hlen, by rw [List.append_assoc]; exact value_app hv1, .inr ⟨hn, value_app hv2⟩, hvs⟩
theorem held_lit {home by_ at_ : Tm} {pred : ByteArray} {args : Rows} {f g : Fc} {a : Rows} (h : Held home by_ at_ pred args f a) :
    (lit home by_ at_ pred args g.1 g.2.1 g.2.2.1 g.2.2.2 a = some a ∧ sameF f g) ∨ (lit home by_ at_ pred args g.1 g.2.1 g.2.2.1 g.2.2.2 a = none ∧ ¬ sameF f g) := by
  obtain ⟨fa, fb, fp, fl⟩ := f
  obtain ⟨ga, gb, gp, gl⟩ := g
  unfold lit sameF
  obtain ⟨hp, hl, ha, hb, hv⟩ := h
  simp only at hp hl ha hb hv ⊢
  subst hp
  by_cases h1 : pred = gp
  · subst h1
    simp only [beq_self_eq_true, Bool.not_true, cond_false, true_and]
    cases h2 : (args.length : Int) != (gl.length : Int) with
    | true =>
      have hne : ¬ args.length = gl.length := by
        have h : ¬ (args.length : Int) = (gl.length : Int) := by simpa using h2
        omega
      refine .inr ⟨rfl, fun ⟨_, _, h3⟩ => hne ?_⟩
      have := congrArg List.length h3
      simp only [List.length_map] at this
      omega
    | false =>
      have hlen : args.length = gl.length := by
        have h : (args.length : Int) = (gl.length : Int) := by simpa using h2
        omega
      simp only [cond_false, unify_has ha, txt_inj]
      cases e1 : fa == ga with
      | false =>
        refine .inr ⟨rfl, fun ⟨h3, _⟩ => ?_⟩
        subst h3; simp at e1
      | true =>
        have e1' := eq_of_beq e1
        subst e1'
        simp only [cond_true, true_and]
        unfold saidBy
        rcases hb with ⟨hn, hb⟩ | ⟨hn, hb⟩
        · simp only [hn, cond_true]
          subst hb
          cases e2 : gb == fb with
          | false =>
            refine .inr ⟨rfl, fun ⟨h3, _⟩ => ?_⟩
            subst h3; simp at e2
          | true =>
            have e2' := eq_of_beq e2
            subst e2'
            simp only [cond_true, true_and]
            exact unifs_has hv hlen
        · simp only [hn, cond_false, unify_has hb, txt_inj]
          cases e2 : fb == gb with
          | false =>
            refine .inr ⟨rfl, fun ⟨h3, _⟩ => ?_⟩
            subst h3; simp at e2
          | true =>
            have e2' := eq_of_beq e2
            subst e2'
            simp only [cond_true, true_and]
            exact unifs_has hv hlen
  · have hb' : (pred == gp) = false := by simpa using h1
    simp only [hb', Bool.not_false, cond_true]
    exact .inr ⟨by first | rfl | trivial, fun ⟨_, _, h3, _⟩ => h1 h3⟩
end Go.Den
