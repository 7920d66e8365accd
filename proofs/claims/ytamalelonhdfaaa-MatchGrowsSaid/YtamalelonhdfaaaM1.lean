import Derived.Test.YtamalelonhdfaaaW3
import Derived.Test.YtamalelonhdfaaaO1
set_option linter.unusedVariables false
set_option linter.unusedSimpArgs false
set_option linter.unusedSectionVars false
/- Terms, bindings, literals. -/
namespace Go.Den
open Go.Proofs
abbrev Tm := ByteArray × Bool × Int × ByteArray
def nilT (t : Tm) : Bool := t.1 == noS && (t.2.1 == false && (t.2.2.1 == 0 && (t.2.2.2 == noS && true)))
def look (v : ByteArray) : Rows → Option Cn
  | [] => none
  | r :: l => bif Row.S r 0 == v then some (Row.B r 1, Row.I r 2, Row.S r 3) else look v l
def value (t : Tm) (env : Rows) : Option Cn := bif nilT t then none else bif t.1 == noS then some t.2 else look t.1 env
@[reducible] def bindRow (v : ByteArray) (c : Cn) : Row := [.val (.string v), .val (.bool c.1), .val (.int .i64 c.2.1), .val (.string c.2.2)]
def unify (t : Tm) (c : Cn) (env : Rows) : Option Rows :=
  match value t env with
  | some d => bif sameC d c then some env else none
  | none => bif nilT t then none else some (env ++ [bindRow t.1 c])
def tmAt (r : Row) (o : Nat) : Tm := (Row.S r o, Row.B r (o + 1), Row.I r (o + 2), Row.S r (o + 3))
def unifs : Rows → Rows → Rows → Option Rows
  | t :: l, c :: m, env => match unify (tmAt t 0) (cnAt c) env with
    | some e => unifs l m e
    | none => none
  | _, _, env => some env
def orT (t other : Tm) : Tm := bif nilT t then other else t
def txt (s : ByteArray) : Cn := (false, 0, s)
def saidBy (t : Tm) (fAt fBy : ByteArray) (env : Rows) : Option Rows := bif nilT t then (bif fBy == fAt then some env else none) else unify t (txt fBy) env
/-- A literal against a fact. -/
def lit (home by_ at_ : Tm) (pred : ByteArray) (args : Rows) (fAt fBy fPred : ByteArray) (fArgs : Rows) (env : Rows) : Option Rows :=
  bif !(pred == fPred) then none else bif (args.length : Int) != (fArgs.length : Int) then none else
  match unify (orT at_ home) (txt fAt) env with
  | none => none
  | some e => match saidBy by_ fAt fBy e with
    | none => none
    | some e => unifs args fArgs e
def outC : Option Cn → (Bool × Int × ByteArray × Unit) × Bool × Unit
  | some c => ((c.1, (c.2.1, (c.2.2, ()))), (true, ()))
  | none => ((false, (0, (noS, ()))), (false, ()))
def outR (nl : Bool) : Option Rows → (Bool × Rows) × Bool × Unit
  | some e => ((nl, e), (true, ()))
  | none => ((true, []), (false, ()))
theorem unify_len {t : Tm} {c : Cn} {env e : Rows} (h : unify t c env = some e) : e.length ≤ env.length + 1 := by
  unfold unify at h
  split at h
  · rename_i d _
    cases hs : sameC d c with
    | true => rw [hs] at h; cases h; omega
    | false => rw [hs] at h; cases h
  · cases hn : nilT t with
    | true => rw [hn] at h; cases h
    | false => rw [hn] at h; cases h; simp
theorem saidBy_len {t : Tm} {a b : ByteArray} {env e : Rows} (h : saidBy t a b env = some e) : e.length ≤ env.length + 1 := by
  unfold saidBy at h
  cases hn : nilT t with
  | true =>
    rw [hn] at h
    cases hb : b == a with
    | true => rw [hb] at h; cases h; omega
    | false => rw [hb] at h; cases h
  | false => rw [hn] at h; exact unify_len h
theorem unifs_len : ∀ {l m env e : Rows}, unifs l m env = some e → e.length ≤ env.length + l.length
  | [], m, env, e, h => by cases h; simp
  | t :: l, [], env, e, h => by cases h; simp
  | t :: l, c :: m, env, e, h => by
    unfold unifs at h
    split at h
    · rename_i e1 h1
      have := unify_len h1
      have := unifs_len h
      simp only [List.length_cons]; omega
    · cases h
theorem lit_len {home by_ at_ : Tm} {pred : ByteArray} {args : Rows} {fAt fBy fPred : ByteArray} {fArgs env e : Rows} (h : lit home by_ at_ pred args fAt fBy fPred fArgs env = some e) : e.length ≤ env.length + args.length + 2 := by
  unfold lit at h
  cases h1 : !(pred == fPred) with
  | true => rw [h1] at h; cases h
  | false =>
  rw [h1] at h
  simp only [cond_false] at h
  cases h2 : (args.length : Int) != (fArgs.length : Int) with
  | true => rw [h2] at h; cases h
  | false =>
  rw [h2] at h
  simp only [cond_false] at h
  split at h
  · cases h
  · rename_i e1 g1
    split at h
    · cases h
    · rename_i e2 g2
      have := unify_len g1
      have := saidBy_len g2
      have := unifs_len h
      omega
/-! the code's own -/
theorem match_Value_1_q (n : Nat) (a : ByteArray) (b : Bool) (c : Int) (d e : ByteArray) (f : Bool) (g : Int) (h : ByteArray) : match_Value_1_v n a b c d e f g h = some (a == e, ((e, (f, (g, (h, ())))), ())) := match_Value_1_e n a b c d e f g h
theorem indexFunc_loop {n : Nat} {nl : Bool} {rows : Rows} {v s : ByteArray} {b : Bool} {i : Int} (hb : rows.length < big) :
    ∀ k j : Nat, j + k = rows.length → ∀ f, k < f → ∃ z : Int, slices_IndexFunc_match_Value_1_l2 n nl rows v b i s f (j : Int) v b i s = some (z, ((v, (b, (i, (s, ())))), ())) ∧
      (z < 0 ∧ look v (rows.drop j) = none ∨ ∃ q : Nat, z = (q : Int) ∧ q < rows.length ∧ look v (rows.drop j) = some (Row.B (rows.getD q []) 1, Row.I (rows.getD q []) 2, Row.S (rows.getD q []) 3)) := by
  intro k
  induction k with
  | zero =>
    intro j hj f hf
    obtain ⟨f, rfl⟩ : ∃ m, f = m + 1 := ⟨f - 1, by omega⟩
    rw [slices_IndexFunc_match_Value_1_s2, List.drop_eq_nil_of_le (by omega)]
    have h1 : ¬ ((j : Int) < (rows.length : Int)) := by omega
    simp only [h1, decide_false, cond_false]
    exact ⟨-1, rfl, .inl ⟨by omega, rfl⟩⟩
  | succ k ih =>
    intro j hj f hf
    obtain ⟨f, rfl⟩ : ∃ m, f = m + 1 := ⟨f - 1, by omega⟩
    have hlt : j < rows.length := by omega
    rw [slices_IndexFunc_match_Value_1_s2, List.drop_eq_getElem_cons hlt]
    have h1 : (j : Int) < (rows.length : Int) := by omega
    have h0 : (0 : Int) ≤ (j : Int) := by omega
    rw [wrap_succ (by omega)]
    simp only [h1, h0, decide_true, cond_true, if_true, Int.toNat_natCast, getD_get hlt, match_Value_1_q, obind_some, look]
    cases hr : Row.S rows[j] 0 == v with
    | true => simp only [cond_true]; exact ⟨j, rfl, .inr ⟨j, rfl, hlt, by rw [getD_get hlt]⟩⟩
    | false => simp only [cond_false]; exact ih (j + 1) (by omega) f (by omega)
theorem match_Value_q {n : Nat} {v s : ByteArray} {b nl : Bool} {i : Int} {env : Rows} (hb : env.length < big) (hn : env.length < n) : match_Value_v n v b i s nl env = some (outC (value (v, b, i, s) env), ()) := by
  rw [match_Value_e, slices_IndexFunc_match_Value_1_e]
  obtain ⟨z, hz, hc⟩ := indexFunc_loop (n := n) (nl := nl) (v := v) (s := s) (b := b) (i := i) hb env.length 0 (by omega) n hn
  rw [show ((0 : Nat) : Int) = 0 from rfl] at hz
  rw [List.drop_zero] at hc
  unfold value nilT
  simp only [hz, obind_some]
  cases (v == noS && (b == false && (i == 0 && (s == noS && true)))) with
  | true => rfl
  | false =>
    simp only [cond_false]
    cases v == noS with
    | true => rfl
    | false =>
      simp only [cond_false]
      rcases hc with ⟨h1, h2⟩ | ⟨q, rfl, h1, h2⟩
      · rw [h2]; simp only [h1, decide_true, cond_true]; rfl
      · have g1 : ¬ (q : Int) < 0 := by omega
        have g2 : (0 : Int) ≤ (q : Int) := by omega
        have g3 : (q : Int) < (env.length : Int) := by omega
        rw [h2]; simp only [g1, g2, g3, decide_false, cond_false, if_true, Int.toNat_natCast]; rfl
theorem slices_Clone_q {n : Nat} {nl : Bool} {rows : Rows} (h : rows.length ≤ 1000000) (hw : nl = true → rows = []) : slices_Clone_v n nl rows = some ((nl, rows), ()) := by
  rw [slices_Clone_e]
  cases nl with
  | true => rw [hw rfl]; rfl
  | false =>
    have h1 : (0 + rows.length) * 48 ≤ 140737488355328 := by omega
    simp only [cond_false, h1, if_true, appX, List.nil_append, Bool.false_and]
theorem value_none {t : Tm} {env : Rows} (h : value t env = none) (hn : nilT t = false) : (t.1 == noS) = false := by
  unfold value at h
  rw [hn] at h
  cases hv : t.1 == noS with
  | true => rw [hv] at h; cases h
  | false => rfl
theorem nilT_noS {t : Tm} (h : nilT t = true) : (t.1 == noS) = true := by
  unfold nilT at h
  simp only [Bool.and_eq_true] at h
  exact h.1
theorem match_Unify_q {n : Nat} {v s cs : ByteArray} {b cb nl : Bool} {i ci : Int} {env : Rows} (hb : env.length ≤ 1000000) (hn : env.length < n) (hw : nl = true → env = []) :
    ∃ nl', match_Unify_v n v b i s cb ci cs nl env = some (outR nl' (unify (v, b, i, s) (cb, ci, cs) env), ()) ∧ (nl' = true → ∀ e, unify (v, b, i, s) (cb, ci, cs) env = some e → e = []) := by
  rw [match_Unify_e]
  simp only [match_Value_q (show env.length < big by unfold big; omega) hn, obind_some, slices_Clone_q hb hw]
  unfold unify
  cases hv : value (v, b, i, s) env with
  | some d =>
    simp only [outC, cond_true]
    cases hs : sameC d (cb, ci, cs) with
    | true =>
      unfold sameC at hs
      simp only [hs, Bool.not_true, cond_false, cond_true]
      exact ⟨nl, rfl, fun h e he => by cases he; exact hw h⟩
    | false =>
      unfold sameC at hs
      simp only [hs, Bool.not_false, cond_true, cond_false]
      exact ⟨true, rfl, fun h e he => by cases he⟩
  | none =>
    simp only [outC, cond_false]
    cases hn : nilT (v, b, i, s) with
    | true =>
      have := nilT_noS hn
      simp only at this
      simp only [this, cond_true]
      exact ⟨true, rfl, fun h e he => by cases he⟩
    | false =>
      have := value_none hv hn
      simp only at this
      have hl : (env.length + 1) * 48 ≤ 140737488355328 := by omega
      simp only [this, cond_false, List.length_cons, List.length_nil, Nat.zero_add, hl, if_true, appX, List.isEmpty_cons, Bool.and_false]
      exact ⟨false, rfl, fun h => by cases h⟩
/-! the document's -/
theorem ref11_none_q (n : Nat) (v s : ByteArray) (b : Bool) (i : Int) : ref11_none_v n v b i s = some (nilT (v, b, i, s), ()) := ref11_none_e n v b i s
theorem ref11_Value_loop {n : Nat} {nl : Bool} {rows : Rows} {v s : ByteArray} {b : Bool} {i : Int} (hb : rows.length < big) :
    ∀ k j : Nat, j + k = rows.length → ∀ f, k < f → ref11_Value_l6 n v b i s nl rows f (j : Int) = some (outC (look v (rows.drop j)), ()) := by
  intro k
  induction k with
  | zero =>
    intro j hj f hf
    obtain ⟨f, rfl⟩ : ∃ m, f = m + 1 := ⟨f - 1, by omega⟩
    rw [ref11_Value_s6, List.drop_eq_nil_of_le (by omega)]
    have h1 : ¬ ((j : Int) < (rows.length : Int)) := by omega
    simp only [h1, decide_false, cond_false]; rfl
  | succ k ih =>
    intro j hj f hf
    obtain ⟨f, rfl⟩ : ∃ m, f = m + 1 := ⟨f - 1, by omega⟩
    have hlt : j < rows.length := by omega
    rw [ref11_Value_s6, List.drop_eq_getElem_cons hlt]
    have h1 : (j : Int) < (rows.length : Int) := by omega
    have h0 : (0 : Int) ≤ (j : Int) := by omega
    rw [wrap_succ (by omega)]
    simp only [h1, h0, decide_true, cond_true, if_true, Int.toNat_natCast, getD_get hlt, look]
    cases hr : Row.S rows[j] 0 == v with
    | true => rfl
    | false => simp only [cond_false]; exact ih (j + 1) (by omega) f (by omega)
theorem ref11_Value_q {n : Nat} {v s : ByteArray} {b nl : Bool} {i : Int} {env : Rows} (hb : env.length < big) (hn : env.length < n) : ref11_Value_v n v b i s nl env = some (outC (value (v, b, i, s) env), ()) := by
  rw [ref11_Value_e]
  have hz := ref11_Value_loop (n := n) (nl := nl) (v := v) (s := s) (b := b) (i := i) hb env.length 0 (by omega) n hn
  rw [show ((0 : Nat) : Int) = 0 from rfl, List.drop_zero] at hz
  unfold value
  simp only [hz, ref11_none_q, obind_some]
  cases nilT (v, b, i, s) with
  | true => rfl
  | false =>
    simp only [cond_false]
    cases v == noS with
    | true => rfl
    | false => rfl
theorem ref11_Unify_q {n : Nat} {v s cs : ByteArray} {b cb nl : Bool} {i ci : Int} {env : Rows} (hb : env.length ≤ 1000000) (hn : env.length < n) :
    ∃ nl', ref11_Unify_v n v b i s cb ci cs nl env = some (outR nl' (unify (v, b, i, s) (cb, ci, cs) env), ()) := by
  rw [ref11_Unify_e]
  have h1 : env.length * 48 ≤ 140737488355328 := by omega
  have h2 : (env.length + 1) * 48 ≤ 140737488355328 := by omega
  simp only [ref11_Value_q (show env.length < big by unfold big; omega) hn, ref11_none_q, obind_some, h1, h2, if_true, appX, List.nil_append, List.length_cons, List.length_nil, Nat.zero_add, Bool.false_and]
  unfold unify
  cases hv : value (v, b, i, s) env with
  | some d =>
    simp only [outC, cond_true]
    cases hs : sameC d (cb, ci, cs) with
    | true =>
      unfold sameC at hs
      simp only [hs, cond_true]
      exact ⟨false, rfl⟩
    | false =>
      unfold sameC at hs
      simp only [hs, cond_false]
      exact ⟨true, rfl⟩
  | none =>
    simp only [outC, cond_false]
    cases hn : nilT (v, b, i, s) with
    | true => exact ⟨true, rfl⟩
    | false => exact ⟨false, rfl⟩
end Go.Den
