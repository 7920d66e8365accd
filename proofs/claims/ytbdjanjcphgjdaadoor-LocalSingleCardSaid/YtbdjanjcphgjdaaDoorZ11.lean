import Derived.Test.YtbdjanjcphgjdaaDoorZ10
set_option linter.unusedVariables false
set_option linter.unusedSimpArgs false
set_option linter.unusedSectionVars false
namespace Go.Den
open Go.Proofs
set_option maxRecDepth 20000
set_option linter.unusedVariables false
def flatR (d : RuleD) : Prop := ∀ l ∈ d.2.2.2.2, l.2.2.2 = zeroT
theorem oneL_flat (i : Int) (d : RuleD) : ∀ (l : List LitD) (k : Nat) (re : List LitD) (out : List RuleD), (∀ x ∈ re, x.2.2.2 = zeroT) → (∀ x ∈ out, flatR x) → ∀ x ∈ oneL i d l k re out, flatR x
  | [], k, re, out, hr, ho, x, hx => by
    unfold oneL at hx
    rcases List.mem_append.1 hx with h | h
    · exact ho x h
    · rw [List.mem_singleton.1 h]; exact hr
  | a :: l, k, re, out, hr, ho, x, hx => by
    unfold oneL at hx
    have hr' : ∀ y ∈ re ++ [noAt a], y.2.2.2 = zeroT := fun y hy => by
      rcases List.mem_append.1 hy with h | h
      · exact hr y h
      · rw [List.mem_singleton.1 h]; rfl
    cases h1 : decide (a.2.2.2 = zeroT) with
    | true => rw [h1] at hx; exact oneL_flat i d l (k + 1) _ _ hr' ho x hx
    | false =>
      cases h2 : decide (a.2.2.2 = d.1) with
      | true => rw [h1, h2] at hx; exact oneL_flat i d l (k + 1) _ _ hr' ho x hx
      | false =>
        rw [h1, h2] at hx
        refine oneL_flat i d l (k + 1) _ _ (fun y hy => by rw [List.mem_singleton.1 hy]) (fun y hy => ?_) x hx
        rcases List.mem_append.1 hy with h | h
        · exact ho y h
        · rcases List.mem_cons.1 h with rfl | h
          · exact hr
          · rw [List.mem_singleton.1 h]
            intro z hz
            rcases List.mem_cons.1 hz with rfl | hz
            · rfl
            · rw [List.mem_singleton.1 hz]; rfl
theorem rewL_flat : ∀ (l : List RuleD) (i : Nat), ∀ x ∈ rewL l i, flatR x
  | [], i, x, hx => by cases hx
  | d :: t, i, x, hx => by
    unfold rewL at hx
    rcases List.mem_append.1 hx with h | h
    · exact oneL_flat _ _ _ _ _ _ (fun _ h => by cases h) (fun _ h => by cases h) x h
    · exact rewL_flat t (i + 1) x h
def remN (home : Tm) : List LitD → Nat
  | [] => 0
  | a :: l => (bif decide (a.2.2.2 = zeroT) then 0 else bif decide (a.2.2.2 = home) then 0 else 2) + remN home l
theorem oneL_last (i : Int) (d : RuleD) : ∀ (l : List LitD) (k : Nat) (re : List LitD) (out : List RuleD), ∃ pre re', oneL i d l k re out = pre ++ [(d.1, d.2.1, d.2.2.1, d.2.2.2.1, re')] ∧ pre.length = out.length + remN d.1 l
  | [], k, re, out => ⟨out, re, by unfold oneL; rfl, by simp [remN]⟩
  | a :: l, k, re, out => by
    unfold oneL remN
    cases h1 : decide (a.2.2.2 = zeroT) with
    | true =>
      obtain ⟨pre, re', g1, g2⟩ := oneL_last i d l (k + 1) (re ++ [noAt a]) out
      exact ⟨pre, re', g1, by simp only [cond_true]; omega⟩
    | false =>
      cases h2 : decide (a.2.2.2 = d.1) with
      | true =>
        obtain ⟨pre, re', g1, g2⟩ := oneL_last i d l (k + 1) (re ++ [noAt a]) out
        exact ⟨pre, re', g1, by simp only [cond_true, cond_false]; omega⟩
      | false =>
        simp only [cond_false]
        obtain ⟨pre, re', g1, g2⟩ := oneL_last i d l (k + 1) [(a.2.2.2, tellP ++ nameD i k, (boundS d.1.1 d.2.2.2.2 (k + 1)).map varT, zeroT)]
          (out ++ [(d.1, askP ++ nameD i k, (boundS d.1.1 d.2.2.2.2 k).map varT, a.2.2.2, re), (a.2.2.2, tellP ++ nameD i k, (boundS d.1.1 d.2.2.2.2 (k + 1)).map varT, d.1, [(d.1, askP ++ nameD i k, (boundS d.1.1 d.2.2.2.2 k).map varT, zeroT), noAt a])])
        exact ⟨pre, re', g1, by simp only [List.length_append, List.length_cons, List.length_nil] at g2; omega⟩
end Go.Den
namespace Go.Den
open Go.Proofs
set_option maxRecDepth 20000
set_option linter.unusedVariables false
theorem Single_25 {n : Nat} {r1 r14 : Rows} {b0 b13 : Bool} {i0 : Nat} {j28 : Int} {q : Nat} (hq : q < r14.length) (hl : r14.length ≤ 1000000) (hb1 : (Row.R r14[q] 10).length ≤ 1000000) (hf : flatR (ruleD r14[q])) :
    ∀ k j : Nat, j + k = (Row.R r14[q] 10).length → ∀ i, k < i → law13_LocalSingle_l25 n b0 r1 i0 i b13 r14 (j : Int) (q : Int) j28 = law13_LocalSingle_l22 n b0 r1 i0 b13 r14 ((q + 1 : Nat) : Int) j28 := by
  have hb : 4000000 ≤ big := by unfold big; omega
  have hq1 : (q : Int) < (r14.length : Int) := by omega
  have hw : IntKind.wrap IntKind.i64 ((q : Int) + 1) = ((q + 1 : Nat) : Int) := wrap_succ (by omega)
  intro k
  induction k with
  | zero =>
    intro j hj i hi
    obtain ⟨i, rfl⟩ : ∃ m, i = m + 1 := ⟨i - 1, by omega⟩
    rw [law13_LocalSingle_s25]
    have h1 : ¬ (j : Int) < ((Row.R r14[q] 10).length : Int) := by omega
    simp only [hq1, natj, if_true, Int.toNat_natCast, getD_get hq, h1, decide_false, cond_false, hw]
  | succ k ih =>
    intro j hj i hi
    obtain ⟨i, rfl⟩ : ∃ m, i = m + 1 := ⟨i - 1, by omega⟩
    have hlt : j < (Row.R r14[q] 10).length := by omega
    have h1 : (j : Int) < ((Row.R r14[q] 10).length : Int) := by omega
    have hz : (Row.S (Row.R r14[q] 10)[j] 6 == ByteArray.mk #[] && (Row.B (Row.R r14[q] 10)[j] 7 == false && (Row.I (Row.R r14[q] 10)[j] 8 == 0 && (Row.S (Row.R r14[q] 10)[j] 9 == ByteArray.mk #[] && true)))) = true := by
      refine (sameT_eq (tmAt (Row.R r14[q] 10)[j] 6) zeroT).trans ?_
      exact decide_eq_true (hf (litD (Row.R r14[q] 10)[j]) (List.mem_map.2 ⟨_, List.getElem_mem hlt, rfl⟩))
    rw [law13_LocalSingle_s25, wrap_succ (show j < big by omega), ih (j + 1) (by omega) i (by omega)]
    simp only [hq1, natj, if_true, Int.toNat_natCast, getD_get hq, h1, decide_true, cond_true, getD_get hlt, hz, Bool.not_true, cond_false]
theorem Single_22 {n : Nat} {r1 r14 : Rows} {b0 b13 : Bool} (hn : 2000000 < n) (hl : r14.length ≤ 1000000) (hb1 : ∀ r ∈ r14, (Row.R r 10).length ≤ 1000000) (hf : ∀ r ∈ r14, flatR (ruleD r)) :
    ∀ k q : Nat, q + k = r14.length → ∀ i, k < i → law13_LocalSingle_l22 n b0 r1 i b13 r14 (q : Int) (r14.length : Int) = some (true, ()) := by
  have hb : 4000000 ≤ big := by unfold big; omega
  intro k
  induction k with
  | zero =>
    intro q hq i hi
    obtain ⟨i, rfl⟩ : ∃ m, i = m + 1 := ⟨i - 1, by omega⟩
    rw [law13_LocalSingle_s22, live13_q hn]
    have h1 : ¬ (q : Int) < (r14.length : Int) := by omega
    simp only [h1, decide_false, cond_false, beq_self_eq_true, cond_true]; rfl
  | succ k ih =>
    intro q hq i hi
    obtain ⟨i, rfl⟩ : ∃ m, i = m + 1 := ⟨i - 1, by omega⟩
    have hlt : q < r14.length := by omega
    have h1 : (q : Int) < (r14.length : Int) := by omega
    have hbq := hb1 _ (List.getElem_mem hlt)
    rw [law13_LocalSingle_s22]
    simp only [h1, decide_true, cond_true]
    have := Single_25 (n := n) (r1 := r1) (b0 := b0) (b13 := b13) (i0 := i) (j28 := (r14.length : Int)) hlt hl hbq (hf _ (List.getElem_mem hlt)) (Row.R r14[q] 10).length 0 (by omega) n (by omega)
    rw [show (0 : Int) = ((0 : Nat) : Int) from rfl, this]
    exact ih (q + 1) (by omega) i (by omega)
end Go.Den
namespace Go.Den
open Go.Proofs
set_option maxRecDepth 20000
set_option linter.unusedVariables false
theorem oneL_body {B : Nat} (hB : 2 ≤ B) (i : Int) (d : RuleD) : ∀ (l : List LitD) (k : Nat) (re : List LitD) (out : List RuleD), re.length + l.length ≤ B → (∀ x ∈ out, x.2.2.2.2.length ≤ B) → ∀ x ∈ oneL i d l k re out, x.2.2.2.2.length ≤ B
  | [], k, re, out, hr, ho, x, hx => by
    unfold oneL at hx
    rcases List.mem_append.1 hx with h | h
    · exact ho x h
    · rw [List.mem_singleton.1 h]
      show re.length ≤ B
      omega
  | a :: l, k, re, out, hr, ho, x, hx => by
    unfold oneL at hx
    simp only [List.length_cons] at hr
    have hr' : (re ++ [noAt a]).length + l.length ≤ B := by simp only [List.length_append, List.length_cons, List.length_nil]; omega
    cases h1 : decide (a.2.2.2 = zeroT) with
    | true => rw [h1] at hx; exact oneL_body hB i d l (k + 1) _ _ hr' ho x hx
    | false =>
      cases h2 : decide (a.2.2.2 = d.1) with
      | true => rw [h1, h2] at hx; exact oneL_body hB i d l (k + 1) _ _ hr' ho x hx
      | false =>
        rw [h1, h2] at hx
        refine oneL_body hB i d l (k + 1) _ _ (by simp only [List.length_cons, List.length_nil]; omega) (fun y hy => ?_) x hx
        rcases List.mem_append.1 hy with h | h
        · exact ho y h
        · rcases List.mem_cons.1 h with rfl | h
          · show re.length ≤ B
            omega
          · rw [List.mem_singleton.1 h]
            show 2 ≤ B
            exact hB
theorem rewL_body {B : Nat} (hB : 2 ≤ B) : ∀ (l : List RuleD) (i : Nat), (∀ d ∈ l, d.2.2.2.2.length ≤ B) → ∀ x ∈ rewL l i, x.2.2.2.2.length ≤ B
  | [], i, _, x, hx => by cases hx
  | d :: t, i, hd, x, hx => by
    unfold rewL at hx
    rcases List.mem_append.1 hx with h | h
    · exact oneL_body hB _ _ _ _ _ _ (by have := hd d (by simp); simp only [List.length_nil]; omega) (fun _ h => by cases h) x h
    · exact rewL_body hB t (i + 1) (fun y hy => hd y (by simp [hy])) x h
end Go.Den
namespace Go.Den
open Go.Proofs
set_option maxRecDepth 20000
set_option linter.unusedVariables false
def remB (home : Tm) (a : LitD) : Bool := !decide (a.2.2.2 = zeroT) && !decide (a.2.2.2 = home)
theorem remN_cons (home : Tm) (a : LitD) (l : List LitD) : remN home (a :: l) = (bif remB home a then 2 else 0) + remN home l := by
  unfold remB
  rw [remN]
  cases decide (a.2.2.2 = zeroT) <;> cases decide (a.2.2.2 = home) <;> rfl
theorem Remote_q {n : Nat} {r : Row} {j : Nat} (hj : j < (Row.R r 10).length) : ref13_Remote_v n (Row.S r 0) (Row.B r 1) (Row.I r 2) (Row.S r 3) (Row.S r 4) (Row.N r 5) (Row.R r 5) (Row.S r 6) (Row.B r 7) (Row.I r 8) (Row.S r 9) (Row.N r 10) (Row.R r 10) (j : Int) = some (remB (ruleD r).1 (litD (Row.R r 10)[j]), ()) := by
  have h1 : (j : Int) < ((Row.R r 10).length : Int) := by omega
  have hz : (Row.S (Row.R r 10)[j] 6 == ByteArray.mk #[] && (Row.B (Row.R r 10)[j] 7 == false && (Row.I (Row.R r 10)[j] 8 == 0 && (Row.S (Row.R r 10)[j] 9 == ByteArray.mk #[] && true)))) = decide ((litD (Row.R r 10)[j]).2.2.2 = zeroT) := sameT_eq (tmAt (Row.R r 10)[j] 6) zeroT
  have hh : (Row.S (Row.R r 10)[j] 6 == Row.S r 0 && (Row.B (Row.R r 10)[j] 7 == Row.B r 1 && (Row.I (Row.R r 10)[j] 8 == Row.I r 2 && (Row.S (Row.R r 10)[j] 9 == Row.S r 3 && true)))) = decide ((litD (Row.R r 10)[j]).2.2.2 = (ruleD r).1) := sameT_eq (tmAt (Row.R r 10)[j] 6) (tmAt r 0)
  rw [ref13_Remote_e]
  simp only [h1, natj, if_true, Int.toNat_natCast, getD_get hj, hz, hh]
  unfold remB
  cases decide ((litD (Row.R r 10)[j]).2.2.2 = zeroT) <;> rfl
end Go.Den
namespace Go.Den
open Go.Proofs
set_option maxRecDepth 20000
set_option linter.unusedVariables false
theorem Single_12 {n : Nat} {r1 r9 : Rows} {b0 b8 : Bool} {i0 : Nat} {q : Nat} (hn : 2000000 < n) (hq : q < r1.length) (hl : r1.length ≤ 1000) (hm : (Row.R r1[q] 10).length ≤ 1000) (h5 : (Row.R r1[q] 5).length ≤ 1000) (h9 : r9.length ≤ 1000000) :
    ∀ k j : Nat, j + k = (Row.R r1[q] 10).length → ∀ (i a a2 : Nat), k < i → a + remN (ruleD r1[q]).1 (((Row.R r1[q] 10).map litD).drop j) = a2 + 1 → a2 < r9.length → a2 ≤ 1000000 →
      (∀ x, r9[a2]? = some x → (ruleD x).1 = (ruleD r1[q]).1 ∧ (ruleD x).2.1 = (ruleD r1[q]).2.1 ∧ (ruleD x).2.2.1 = (ruleD r1[q]).2.2.1 ∧ (ruleD x).2.2.2.1 = (ruleD r1[q]).2.2.2.1) →
      law13_LocalSingle_l12 n b0 r1 i0 i b8 r9 (a : Int) (j : Int) (q : Int) = law13_LocalSingle_l8 n b0 r1 i0 b8 r9 ((a2 + 1 : Nat) : Int) ((q + 1 : Nat) : Int) := by
  have hb : 4000000 ≤ big := by unfold big; omega
  have hq1 : (q : Int) < (r1.length : Int) := by omega
  have hw : IntKind.wrap IntKind.i64 ((q : Int) + 1) = ((q + 1 : Nat) : Int) := wrap_succ (by omega)
  intro k
  induction k with
  | zero =>
    intro j hj i a a2 hi ha h2 h2b hx
    obtain ⟨i, rfl⟩ : ∃ m, i = m + 1 := ⟨i - 1, by omega⟩
    have hnil : ((Row.R r1[q] 10).map litD).drop j = [] := List.drop_eq_nil_of_le (by rw [List.length_map]; omega)
    rw [hnil, remN, Nat.add_zero] at ha
    subst ha
    obtain ⟨e1, e2, e3, e4⟩ := hx r9[a2] (List.getElem?_eq_getElem h2)
    have hs1 := (sameT_eq (tmAt r9[a2] 0) (tmAt r1[q] 0)).trans (decide_eq_true e1)
    have hs2 := (sameT_eq (tmAt r9[a2] 6) (tmAt r1[q] 6)).trans (decide_eq_true e4)
    have hp : Row.S r9[a2] 4 = Row.S r1[q] 4 := e2
    have hwa : IntKind.wrap IntKind.i64 (((a2 + 1 : Nat) : Int) - 1) = (a2 : Int) := by rw [wrap_small (by omega) (by omega)]; omega
    have ht : (Row.R r9[a2] 5).length = (Row.R r1[q] 5).length := by rw [← tms_len, ← tms_len (Row.R r1[q] 5)]; exact congrArg List.length e3
    have hT := Terms_qd (n := n) (b0 := Row.N r9[a2] 5) (b2 := Row.N r1[q] 5) (r := Row.R r9[a2] 5) (r3 := Row.R r1[q] 5) (by omega) (by omega)
    rw [law13_LocalSingle_s12]
    have h1 : ¬ (j : Int) < ((Row.R r1[q] 10).length : Int) := by omega
    have hg : ¬ ((a2 + 1 : Nat) : Int) > (r9.length : Int) := by omega
    have hlt9 : (a2 : Int) < (r9.length : Int) := by omega
    simp only [hq1, natj, if_true, Int.toNat_natCast, getD_get hq, h1, decide_false, cond_false, hg, hwa, hlt9, getD_get h2, hw, hT]
    have hs1' : (Row.S r9[a2] 0 == Row.S r1[q] 0 && (Row.B r9[a2] 1 == Row.B r1[q] 1 && (Row.I r9[a2] 2 == Row.I r1[q] 2 && (Row.S r9[a2] 3 == Row.S r1[q] 3 && true)))) = true := hs1
    have hs2' : (Row.S r9[a2] 6 == Row.S r1[q] 6 && (Row.B r9[a2] 7 == Row.B r1[q] 7 && (Row.I r9[a2] 8 == Row.I r1[q] 8 && (Row.S r9[a2] 9 == Row.S r1[q] 9 && true)))) = true := hs2
    have hT' : decide (tms (Row.R r9[a2] 5) = tms (Row.R r1[q] 5)) = true := decide_eq_true e3
    rw [hs1', hs2', hp, hT']
    simp only [Bool.not_true, cond_false, beq_self_eq_true, obind]
  | succ k ih =>
    intro j hj i a a2 hi ha h2 h2b hx
    obtain ⟨i, rfl⟩ : ∃ m, i = m + 1 := ⟨i - 1, by omega⟩
    have hlt : j < (Row.R r1[q] 10).length := by omega
    have h1 : (j : Int) < ((Row.R r1[q] 10).length : Int) := by omega
    rw [body_drop hlt, remN_cons] at ha
    rw [law13_LocalSingle_s12, wrap_succ (show j < big by omega)]
    simp only [hq1, natj, if_true, Int.toNat_natCast, getD_get hq, h1, decide_true, cond_true]
    rw [Remote_q hlt]
    simp only [obind]
    cases hr : remB (ruleD r1[q]).1 (litD (Row.R r1[q] 10)[j]) with
    | true =>
      rw [hr] at ha
      have hwa : IntKind.wrap IntKind.i64 ((a : Int) + 2) = ((a + 2 : Nat) : Int) := by simp only [cond_true] at ha; rw [wrap_small (by omega) (by omega)]; omega
      simp only [cond_true, hwa] at ha ⊢
      exact ih (j + 1) (by omega) i (a + 2) a2 (by omega) (by omega) h2 h2b hx
    | false =>
      rw [hr] at ha
      simp only [cond_false] at ha ⊢
      exact ih (j + 1) (by omega) i a a2 (by omega) (by omega) h2 h2b hx
end Go.Den
namespace Go.Den
open Go.Proofs
set_option maxRecDepth 20000
set_option linter.unusedVariables false
theorem bigN_2 : 2000000 < bigN := by unfold bigN reachBytes; omega
theorem obs {α β : Type} (a : α) (f : α → Option β) : obind (some a) f = f a := rfl
theorem rulesOk2 {l : Rows} (h : RowsFine kR l) (hw : weight5 200 l 0 ≤ 200) : l.length ≤ 300 ∧ ∀ r ∈ l, RuleOk bigN r := by
  obtain ⟨h1, h2⟩ := weight5_all2 l 0 h (Int.le_refl _) hw
  exact ⟨by omega, fun r hr => ruleOk (rowsFine_mem h hr) (by have := (h2 r hr).1; omega) (by have := (h2 r hr).2.1; omega) (fun q hq => by have := (h2 r hr).2.2 q hq; omega)⟩
theorem rewL_len : ∀ (l : List RuleD) (i : Nat), (∀ d ∈ l, d.2.2.2.2.length ≤ 1000) → (rewL l i).length ≤ 2001 * l.length
  | [], _, _ => Nat.zero_le _
  | d :: t, i, h => by
    have h1 := oneL_len (i : Int) d d.2.2.2.2 0 [] []
    have h2 := rewL_len t (i + 1) (fun x hx => h x (by simp [hx]))
    have h3 := h d (by simp)
    rw [rewL, List.length_append, List.length_cons]
    simp only [List.length_nil] at h1
    omega
theorem Single_8 {n : Nat} {r1 r9 : Rows} {b0 b8 : Bool} (hn : 2000000 < n) (hl : r1.length ≤ 300) (hr : ∀ r ∈ r1, RuleOk n r) (h9 : r9.length ≤ 1000000) (hb9 : ∀ r ∈ r9, (Row.R r 10).length ≤ 1000000) (hf : ∀ r ∈ r9, flatR (ruleD r)) :
    ∀ k q : Nat, q + k = r1.length → ∀ (i : Nat) (P : List RuleD), k < i → r9.map ruleD = P ++ rewL ((r1.drop q).map ruleD) q →
      law13_LocalSingle_l8 n b0 r1 i b8 r9 (P.length : Int) (q : Int) = some (true, ()) := by
  have hb : 4000000 ≤ big := by unfold big; omega
  intro k
  induction k with
  | zero =>
    intro q hq i P hi hP
    obtain ⟨i, rfl⟩ : ∃ m, i = m + 1 := ⟨i - 1, by omega⟩
    have hnil : r1.drop q = [] := List.drop_eq_nil_of_le (by omega)
    rw [hnil] at hP
    have hpl : r9.length = P.length := by have := congrArg List.length hP; simpa [rewL] using this
    rw [law13_LocalSingle_s8]
    have h1 : ¬ (q : Int) < (r1.length : Int) := by omega
    simp only [h1, decide_false, cond_false]
    rw [← hpl]
    exact Single_22 hn h9 hb9 hf r9.length 0 (by omega) n (by omega)
  | succ k ih =>
    intro q hq i P hi hP
    obtain ⟨i, rfl⟩ : ∃ m, i = m + 1 := ⟨i - 1, by omega⟩
    have hlt : q < r1.length := by omega
    have h1 : (q : Int) < (r1.length : Int) := by omega
    have hd : r1.drop q = r1[q] :: r1.drop (q + 1) := List.drop_eq_getElem_cons hlt
    have hrq := hr r1[q] (List.getElem_mem hlt)
    obtain ⟨pre, re', g1, g2⟩ := oneL_last (q : Int) (ruleD r1[q]) (ruleD r1[q]).2.2.2.2 0 [] []
    simp only [List.length_nil, Nat.zero_add] at g2
    rw [hd, List.map_cons, rewL, g1] at hP
    have hP2 : r9.map ruleD = (P ++ (pre ++ [((ruleD r1[q]).1, (ruleD r1[q]).2.1, (ruleD r1[q]).2.2.1, (ruleD r1[q]).2.2.2.1, re')])) ++ rewL ((r1.drop (q + 1)).map ruleD) (q + 1) := by rw [hP]; simp only [List.append_assoc]
    have hlen : r9.length = P.length + pre.length + 1 + (rewL ((r1.drop (q + 1)).map ruleD) (q + 1)).length := by
      have := congrArg List.length hP2
      simp only [List.length_map, List.length_append, List.length_cons, List.length_nil] at this
      omega
    have ha2 : P.length + pre.length < r9.length := by omega
    have hx : ∀ x, r9[P.length + pre.length]? = some x → ruleD x = ((ruleD r1[q]).1, (ruleD r1[q]).2.1, (ruleD r1[q]).2.2.1, (ruleD r1[q]).2.2.2.1, re') := by
      intro x hx
      have e := congrArg (fun l => l[P.length + pre.length]?) hP2
      simp only [List.getElem?_map, hx, Option.map_some] at e
      rw [List.getElem?_append_left (by simp only [List.length_append, List.length_cons, List.length_nil]; omega), List.getElem?_append_right (by omega), List.getElem?_append_right (by omega)] at e
      simp only [show P.length + pre.length - P.length - pre.length = 0 by omega, List.getElem?_cons_zero] at e
      exact Option.some.inj e
    rw [law13_LocalSingle_s8]
    simp only [h1, decide_true, cond_true]
    have hwa : IntKind.wrap IntKind.i64 ((P.length : Int) + 1) = ((P.length + 1 : Nat) : Int) := wrap_succ (by omega)
    rw [hwa]
    have e3 : (ruleD r1[q]).2.2.2.2 = (Row.R r1[q] 10).map litD := rfl
    have h12 := Single_12 (n := n) (b0 := b0) (b8 := b8) (i0 := i) (r9 := r9) hn hlt (by omega) hrq.blen hrq.len h9 (Row.R r1[q] 10).length 0 (by omega) n (P.length + 1) (P.length + pre.length) (by have := hrq.blen; omega)
      (by rw [List.drop_zero, ← e3]; omega) ha2 (by omega) (fun x hxx => by rw [hx x hxx]; exact ⟨rfl, rfl, rfl, rfl⟩)
    rw [show (0 : Int) = ((0 : Nat) : Int) from rfl, h12]
    have := ih (q + 1) (by omega) i (P ++ (pre ++ [((ruleD r1[q]).1, (ruleD r1[q]).2.1, (ruleD r1[q]).2.2.1, (ruleD r1[q]).2.2.2.1, re')])) (by omega) hP2
    rw [← this]
    congr 2
    simp only [List.length_append, List.length_cons, List.length_nil]
    omega
structure Made (r1 rows : Rows) : Prop where
  data : rows.map ruleD = rewL (r1.map ruleD) 0
  len : rows.length ≤ 1000000
  body : ∀ r ∈ rows, (Row.R r 10).length ≤ 1000000
  flat : ∀ r ∈ rows, flatR (ruleD r)
theorem made {n : Nat} {r1 rows : Rows} (hl : r1.length ≤ 300) (hr : ∀ r ∈ r1, RuleOk n r) (g2 : rows.map ruleD = rewL (r1.map ruleD) 0) : Made r1 rows where
  data := g2
  len := by
    have h1 := rewL_len (r1.map ruleD) 0 (fun d hd => by
      obtain ⟨r, hr', rfl⟩ := List.mem_map.1 hd
      have := (hr r hr').blen
      show ((Row.R r 10).map litD).length ≤ 1000
      rw [List.length_map]; exact this)
    rw [← g2, List.length_map, List.length_map] at h1
    omega
  body := fun r hr' => by
    have h1 := rewL_body (B := 1000) (by omega) (r1.map ruleD) 0 (fun d hd => by
      obtain ⟨r, hr', rfl⟩ := List.mem_map.1 hd
      have := (hr r hr').blen
      show ((Row.R r 10).map litD).length ≤ 1000
      rw [List.length_map]; exact this) (ruleD r) (by rw [← g2]; exact List.mem_map.2 ⟨r, hr', rfl⟩)
    have : (ruleD r).2.2.2.2.length = (Row.R r 10).length := by show ((Row.R r 10).map litD).length = _; rw [List.length_map]
    omega
  flat := fun r hr' => rewL_flat (r1.map ruleD) 0 (ruleD r) (by rw [← g2]; exact List.mem_map.2 ⟨r, hr', rfl⟩)
theorem law13_LocalSingle_pure (b0 : Bool) (r1 : Rows) (h : Fsl b0 kR r1) : ∃ n, law13_LocalSingle_v n b0 r1 = some (true, ()) := by
  refine ⟨bigN, ?_⟩
  have hN := bigN_big
  have hN2 := bigN_2
  have hlv := live13_q (n := bigN) hN2
  rw [law13_LocalSingle_e, weight5_q (by omega) (by omega) h.2.2.1 h.1 (fun r hr => bigN_lt (fineR (rowsFine_mem h.2.2.1 hr)).2.2.1) (bigN_lt h.1), hlv]
  simp only [obs]
  by_cases hw : weight5 200 r1 0 > 200
  · simp only [hw, decide_true, cond_true]
  · simp only [hw, decide_false, cond_false]
    have hok := rulesOk2 h.2.2.1 (by omega)
    rcases Rewrite_q (n := bigN) (r1 := r1) (b0 := b0) hN2 (by have := hok.1; omega) hok.2 with ⟨c, rows, _, g1, g2⟩ | ⟨g0, g1⟩
    · rw [g1]
      simp only [obs, bne_self_eq_false, cond_false]
      have hm := made hok.1 hok.2 g2
      exact Single_8 hN2 hok.1 hok.2 hm.len hm.body hm.flat r1.length 0 (by omega) bigN [] (by have := hok.1; omega) (by rw [List.drop_zero]; exact g2)
    · rw [g1]
      have : ((progC r1).1 != 0) = true := by simpa using g0
      simp only [obs, this, cond_true]
      rfl
end Go.Den
