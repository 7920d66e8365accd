import Derived.Test.YtlpnccpagikioaaDoorZ31
set_option linter.unusedVariables false
set_option linter.unusedSimpArgs false
set_option linter.unusedSectionVars false
/- CheckSome. -/
namespace Go.Den
open Go.Proofs
set_option linter.unusedVariables false
@[reducible] def cpR (r : Row) : Row := [DV.val (Value.string (Row.S r 0)), DV.val (Value.bool (Row.B r 1)), DV.val (Value.int IntKind.i64 (Row.I r 2)), DV.val (Value.string (Row.S r 3)), DV.val (Value.string (Row.S r 4)), DV.sl (Row.N r 5) [Kd.s, Kd.b, Kd.i IntKind.i64, Kd.s] (Row.R r 5), DV.val (Value.string (Row.S r 6)), DV.val (Value.bool (Row.B r 7)), DV.val (Value.int IntKind.i64 (Row.I r 8)), DV.val (Value.string (Row.S r 9)), DV.sl (Row.N r 10) [Kd.s, Kd.b, Kd.i IntKind.i64, Kd.s, Kd.s, Kd.sl [Kd.s, Kd.b, Kd.i IntKind.i64, Kd.s], Kd.s, Kd.b, Kd.i IntKind.i64, Kd.s] (Row.R r 10)]
theorem cp_D (r : Row) : ruleD (cpR r) = ruleD r := rfl
theorem cp_R (r : Row) : ruleR (cpR r) = ruleR r := ruleR_data rfl
theorem cp_ok {n : Nat} {r : Row} (h : RuleOk n r) : RuleOk n (cpR r) := ⟨h.home, h.pred, h.len, h.args, h.to_, h.blen, h.body⟩
theorem okS_cp : ∀ (l : Rows) (s : Seen), okS (l.map cpR) s = okS l s
  | [], _ => rfl
  | r :: t, s => by
    rw [List.map_cons]
    unfold okS
    rw [cp_R, cp_D, okS_cp t]
def le (s' s : Seen) : Prop := ∀ p m, findN s' p = some m → findN s p = some m
theorem findN_snoc : ∀ (s : Seen) (p : ByteArray) (m : Int) (q : ByteArray), findN (s ++ [(p, m)]) q = match findN s q with | some k => some k | none => if p = q then some m else none
  | [], p, m, q => rfl
  | a :: s, p, m, q => by
    rw [List.cons_append, findN_cons, findN_cons, findN_snoc s p m q]
    split <;> rfl
theorem odd_le {s s1 : Seen} {p : ByteArray} {m : Int} (h : oddD s p m = (s1, false)) : le s s1 ∧ findN s1 p = some m := by
  unfold oddD at h
  cases hf : findN s p with
  | some k =>
    rw [hf] at h
    simp only [Prod.mk.injEq] at h
    obtain ⟨rfl, h2⟩ := h
    have : k = m := by simpa using h2
    subst this
    exact ⟨fun _ _ h => h, hf⟩
  | none =>
    rw [hf] at h
    simp only [Prod.mk.injEq, and_true] at h
    subst h
    refine ⟨fun q k hq => ?_, ?_⟩
    · rw [findN_snoc, hq]
    · rw [findN_snoc, hf, if_pos rfl]
theorem odd_sub {s' s s1 : Seen} {p : ByteArray} {m : Int} (hle : le s' s) (h : oddD s p m = (s1, false)) : ∃ s1', oddD s' p m = (s1', false) ∧ le s1' s1 := by
  obtain ⟨h1, h2⟩ := odd_le h
  unfold oddD
  cases hf : findN s' p with
  | some k =>
    have hk : k = m := by
      have := h1 p k (hle p k hf)
      rw [h2] at this
      injection this with this; exact this.symm
    subst hk
    exact ⟨s', by simp, fun q j hq => h1 q j (hle q j hq)⟩
  | none =>
    refine ⟨s' ++ [(p, m)], rfl, fun q j hq => ?_⟩
    rw [findN_snoc] at hq
    cases hq' : findN s' q with
    | some k =>
      rw [hq'] at hq
      injection hq with hq; subst hq
      exact h1 q k (hle q k hq')
    | none =>
      rw [hq'] at hq
      simp only at hq
      split at hq
      · rename_i e; subst e; injection hq with hq; subst hq; exact h2
      · cases hq
theorem aritL_le : ∀ (l : List LitD) (q : Nat) (s : Seen), ¬ (aritL s l q).2 > -2 → le s (aritL s l q).1
  | [], _, _, _ => fun _ _ h => h
  | a :: l, q, s, h => by
    unfold aritL at h ⊢
    rcases ho : oddD s a.2.1 (a.2.2.1.length : Int) with ⟨s1, bad⟩
    rw [ho] at h
    cases bad with
    | true => exact absurd (show (q : Int) > -2 by omega) h
    | false =>
      have h1 := aritL_le l (q + 1) s1 h
      exact fun p m hp => h1 p m ((odd_le ho).1 p m hp)
theorem aritL_sub : ∀ (l : List LitD) (q : Nat) (s' s : Seen), le s' s → ¬ (aritL s l q).2 > -2 → ¬ (aritL s' l q).2 > -2 ∧ le (aritL s' l q).1 (aritL s l q).1
  | [], _, _, _, hle, h => ⟨h, hle⟩
  | a :: l, q, s', s, hle, h => by
    unfold aritL at h ⊢
    rcases ho : oddD s a.2.1 (a.2.2.1.length : Int) with ⟨s1, bad⟩
    rw [ho] at h
    cases bad with
    | true => exact absurd (show (q : Int) > -2 by omega) h
    | false =>
      obtain ⟨s1', h1, h2⟩ := odd_sub hle ho
      rw [h1]
      exact aritL_sub l (q + 1) s1' s1 h2 h
theorem aritD_le {d : RuleD} {s : Seen} (h : ¬ (aritD s d).2 > -2) : le s (aritD s d).1 := by
  unfold aritD at h ⊢
  rcases ho : oddD s d.2.1 (d.2.2.1.length : Int) with ⟨s1, bad⟩
  rw [ho] at h
  cases bad with
  | true => exact absurd (show (-1 : Int) > -2 by omega) h
  | false => exact fun p m hp => aritL_le _ 0 s1 h p m ((odd_le ho).1 p m hp)
theorem aritD_sub {d : RuleD} {s' s : Seen} (hle : le s' s) (h : ¬ (aritD s d).2 > -2) : ¬ (aritD s' d).2 > -2 ∧ le (aritD s' d).1 (aritD s d).1 := by
  unfold aritD at h ⊢
  rcases ho : oddD s d.2.1 (d.2.2.1.length : Int) with ⟨s1, bad⟩
  rw [ho] at h
  cases bad with
  | true => exact absurd (show (-1 : Int) > -2 by omega) h
  | false =>
    obtain ⟨s1', h1, h2⟩ := odd_sub hle ho
    rw [h1]
    exact aritL_sub _ 0 s1' s1 h2 h
theorem okS_sub {l' l : Rows} (hs : l'.Sublist l) : ∀ s' s : Seen, le s' s → okS l s = true → okS l' s' = true := by
  induction hs with
  | slnil => intro s' s _ _; rfl
  | cons a hs ih =>
    intro s' s hle h
    unfold okS at h
    simp only [Bool.and_eq_true, Bool.not_eq_true'] at h
    obtain ⟨h1, h2, h3, h4, h5, h6⟩ := h
    exact ih s' _ (fun p m hp => aritD_le (of_decide_eq_false h3) p m (hle p m hp)) h6
  | cons_cons a hs ih =>
    intro s' s hle h
    unfold okS at h ⊢
    simp only [Bool.and_eq_true, Bool.not_eq_true'] at h ⊢
    obtain ⟨h1, h2, h3, h4, h5, h6⟩ := h
    obtain ⟨g1, g2⟩ := aritD_sub hle (of_decide_eq_false h3)
    exact ⟨h1, h2, decide_eq_false g1, h4, h5, ih _ _ g2 h6⟩
theorem wrap64_nn (z : Int) : ¬ IntKind.wrap IntKind.u64 z < 0 := by
  unfold IntKind.wrap
  simp only [IntKind.bits, IntKind.signed]
  first
    | (simp; omega)
    | omega
theorem Some_l {n : Nat} {r1 : Rows} {b0 : Bool} {j2 : Int} (hn : 2000000 < n) (hl : r1.length ≤ 300) (h : ∀ r ∈ r1, RuleOk n r) (hok : okS r1 [] = true) (h16 : r1.length ≤ 16) :
    ∀ k j : Nat, j + k = r1.length → ∀ i b (xs : Rows), k < i → xs.Sublist (r1.take j) → law10_CheckSome_l8 n b0 r1 j2 i b (xs.map cpR) (j : Int) = some (true, ()) := by
  have hb : 4000000 ≤ big := by unfold big; omega
  intro k
  induction k with
  | zero =>
    intro j hj i b xs hi hx
    obtain ⟨i, rfl⟩ : ∃ m, i = m + 1 := ⟨i - 1, by omega⟩
    rw [law10_CheckSome_s8, live_q hn]
    have h1 : ¬ (j : Int) < (r1.length : Int) := by omega
    simp only [h1, decide_false, cond_false]
    rw [List.take_of_length_le (by omega)] at hx
    have hlx : xs.length ≤ r1.length := hx.length_le
    have hR : ∀ r ∈ xs.map cpR, RuleOk n r := by
      intro r hr
      obtain ⟨a, ha, rfl⟩ := List.mem_map.1 hr
      exact cp_ok (h a (hx.subset ha))
    have hS : okS (xs.map cpR) [] = true := by rw [okS_cp]; exact okS_sub hx [] [] (fun _ _ h => h) hok
    have hC : progC (xs.map cpR) = (0, -1, -1) := by
      unfold progC
      rw [decide_eq_false (by rw [List.length_map]; omega)]
      exact okS_prog _ _ _ hS
    rw [Program_q hn (by rw [List.length_map]; omega) hR, hC]
    rfl
  | succ k ih =>
    intro j hj i b xs hi hx
    obtain ⟨i, rfl⟩ : ∃ m, i = m + 1 := ⟨i - 1, by omega⟩
    have hlt : j < r1.length := by omega
    have h1 : (j : Int) < (r1.length : Int) := by omega
    have ht : r1.take (j + 1) = r1.take j ++ [r1[j]] := List.take_succ_eq_append_getElem hlt
    have hx1 : xs.Sublist (r1.take (j + 1)) := by rw [ht]; exact hx.trans (List.sublist_append_left _ _)
    have hx2 : (xs ++ [r1[j]]).Sublist (r1.take (j + 1)) := by rw [ht]; exact hx.append (List.Sublist.refl _)
    have hlx : xs.length ≤ r1.length := by have := hx.length_le; rw [List.length_take] at this; omega
    rw [law10_CheckSome_s8, wrap_succ (show j < big by omega)]
    simp only [h1, natj, if_true, decide_true, cond_true, Int.toNat_natCast, getD_get hlt]
    rw [if_neg (wrap64_nn _), ih (j + 1) (by omega) i b xs (by omega) hx1]
    have hlen : ((xs.map cpR).length + List.length [cpR r1[j]]) * 160 ≤ 140737488355328 := by rw [List.length_map]; show (xs.length + 1) * 160 ≤ _; omega
    have hap : appX (xs.map cpR) [cpR r1[j]] = (xs ++ [r1[j]]).map cpR := by simp [appX]
    have hgo := ih (j + 1) (by omega) i (b && List.isEmpty [cpR r1[j]]) (xs ++ [r1[j]]) (by omega) hx2
    rw [← hap] at hgo
    rw [if_pos hlen]
    rw [hgo]
    exact cond_same _ _
theorem law10_CheckSome_pure (b0 : Bool) (r1 : Rows) (j2 : Int) (h : Fsl b0 kR r1) (hj : (Lit.int .u64 j2).wf = true) : ∃ n, law10_CheckSome_v n b0 r1 j2 = some (true, ()) := by
  refine ⟨bigN, ?_⟩
  have hN := bigN_big
  have hN2 := bigN_2
  have hlv := live_q (n := bigN) hN2
  rw [law10_CheckSome_e, weight5_q (by omega) (by omega) h.2.2.1 h.1 (fun r hr => bigN_lt (fineR (rowsFine_mem h.2.2.1 hr)).2.2.1) (bigN_lt h.1), hlv]
  simp only [obs]
  by_cases hw : weight5 300 r1 0 > 300
  · simp only [hw, decide_true, cond_true]
  · simp only [hw, decide_false, cond_false]
    have hok := rulesOk h.2.2.1 (by omega)
    have hlen := hok.len
    rw [Program_q hN2 (by omega) hok.ok]
    simp only [obs, outP]
    by_cases he : (progC r1).1 = 0
    · rw [he]
      simp only [bne_self_eq_false, cond_false]
      exact Some_l hN2 hlen hok.ok (progC_ok he).1 (progC_ok he).2 r1.length 0 (by omega) bigN true [] (by omega) (List.nil_sublist _)
    · have : ((progC r1).1 != 0) = true := by simpa using he
      rw [this]; rfl
end Go.Den
