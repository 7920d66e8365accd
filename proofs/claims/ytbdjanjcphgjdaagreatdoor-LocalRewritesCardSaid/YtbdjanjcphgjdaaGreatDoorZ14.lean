import Derived.Test.YtbdjanjcphgjdaaGreatDoorZ13
set_option linter.unusedVariables false
set_option linter.unusedSimpArgs false
set_option linter.unusedSectionVars false
namespace Go.Den
open Go.Proofs
@[reducible] def comma : ByteArray := ByteArray.mk #[44, 32]
@[reducible] def wordS (s : ByteArray) : Bool := namedS isSmall s && !keptS s
def pargs : Nat → Rows → ByteArray → Bool → ByteArray × Bool
 |_, [], t, bad => (t ++ ByteArray.mk #[41], bad)
 |q, r :: l, t, bad => pargs (q + 1) l (bif bad then (bif decide (0 < q) then t ++ comma else t) else (bif decide (0 < q) then t ++ comma else t) ++ (noB ++ tx1 (tmAt r 0))) (bif bad then true else (term1 (tmAt r 0)).isNone)
def patom (pred : ByteArray) (args : Rows) (t : ByteArray) (bad : Bool) : ByteArray × Bool :=
 pargs 0 args (t ++ (pred ++ ByteArray.mk #[40])) (bad || (!wordS pred || decide (args.length > 4)))
theorem pargs_size {n : Nat} : ∀ (l : Rows) (q : Nat) (t : ByteArray) (bad : Bool), (∀ r ∈ l, TmOk n (tmAt r 0)) → (pargs q l t bad).1.size ≤ t.size + 50 * l.length + 1
 |[], q, t, bad, _ => by
  show (t ++ ByteArray.mk #[41]).size ≤ _
  rw [ByteArray.size_append]
  have : (ByteArray.mk #[41]).size = 1 := rfl
  simp only [List.length_nil]; omega
 |r :: l, q, t, bad, h => by
  have h0 := h r List.mem_cons_self
  have hsz := tx1_size h0.lo h0.hi
  have e2 : comma.size = 2 := rfl
  have e0 : noB.size = 0 := rfl
  unfold pargs
  have ih := fun t' b' => pargs_size (n := n) l (q + 1) t' b' (fun r hr => h r (List.mem_cons_of_mem _ hr))
  refine Nat.le_trans (ih _ _) ?_
  simp only [List.length_cons]
  cases bad <;> cases decide (0 < q) <;> simp only [cond_true, cond_false, ByteArray.size_append] <;> omega
theorem patom_loop {n : Nat} {s0 : ByteArray} {b1 : Bool} {r2 : Rows} {b3 : Bool} {r4 : Rows} {b5 : Bool} (hn : 10000 < n) (hr : ∀ r ∈ r2, TmOk n (tmAt r 0)) (hl : r2.length ≤ 1000) :
  ∀ k q : Nat, q + k = r2.length → ∀ f nl t bad, k < f → t.size ≤ 1000000 + 50 * q → ∃ nl', z97_l3 n s0 b1 r2 b3 r4 b5 f nl (byteRows t) bad (q : Int) = some (pst nl' (pargs q (r2.drop q) t bad).1 (pargs q (r2.drop q) t bad).2) := by
 intro k
 induction k with
 |zero =>
  intro q hq f nl t bad hf ht
  obtain ⟨f, rfl⟩ : ∃ z, f = z + 1 := ⟨f - 1, by omega⟩
  rw [z97_s3, List.drop_eq_nil_of_le (by omega)]
  have h1 : ¬ (q : Int) < (r2.length : Int) := by omega
  have e1 : (ByteArray.mk #[41]).size = 1 := rfl
  simp only [h1, decide_false, cond_false, pargs]
  rw [writes_q (s := ByteArray.mk #[41]) (t := t) (by omega)]
  exact ⟨_, rfl⟩
 |succ k ih =>
  intro q hq f nl t bad hf ht
  obtain ⟨f, rfl⟩ : ∃ z, f = z + 1 := ⟨f - 1, by omega⟩
  have hlt : q < r2.length := by omega
  have h1 : (q : Int) < (r2.length : Int) := by omega
  have h2 : (0 : Int) ≤ (q : Int) := by omega
  have h0 := hr _ (List.getElem_mem hlt)
  have hsz := tx1_size h0.lo h0.hi
  have e2 : comma.size = 2 := rfl
  have e0 : noB.size = 0 := rfl
  rw [z97_s3, List.drop_eq_getElem_cons hlt, wrap_succ (show q < big by unfold big; omega)]
  simp only [h1, h2, if_true, decide_true, cond_true, Int.toNat_natCast, getD_get hlt, pargs]
  have hdec : decide ((q : Int) > 0) = decide (0 < q) := decide_eq_decide.2 (by omega)
  rw [hdec]
  have hT : ∀ nl' t' bad', t'.size ≤ 1000000 + 50 * q + 2 → z95_v n (ByteArray.mk #[]) (Row.S r2[q] 0) (Row.B r2[q] 1) (Row.I r2[q] 2) (Row.S r2[q] 3) nl' (byteRows t') bad' = some (pst (nl' && (noB ++ tx1 (tmAt r2[q] 0)).size == 0) (t' ++ (noB ++ tx1 (tmAt r2[q] 0))) (bad' || (term1 (tmAt r2[q] 0)).isNone)) := fun nl' t' bad' hh => by
   have := pterm_q (ahead := noB) (t := t') (nl := nl') (bad := bad') h0 hn (by omega) (by omega)
   exact this
  cases hq0 : decide (0 < q) with
  |true =>
   simp only [cond_true]
   rw [writes_q (s := comma) (t := t) (by omega)]
   simp only [obind_some]
   cases bad with
   |true =>
    simp only [Bool.not_true, cond_false]
    exact ih (q + 1) (by omega) f _ (t ++ comma) true (by omega) (by rw [ByteArray.size_append]; omega)
   |false =>
    simp only [Bool.not_false, cond_true, cond_false]
    rw [hT _ (t ++ comma) false (by rw [ByteArray.size_append]; omega)]
    simp only [obind_some, Bool.false_or]
    exact ih (q + 1) (by omega) f _ (t ++ comma ++ (noB ++ tx1 (tmAt r2[q] 0))) _ (by omega) (by simp only [ByteArray.size_append]; omega)
  |false =>
   simp only [cond_false]
   cases bad with
   |true =>
    simp only [Bool.not_true, cond_false]
    exact ih (q + 1) (by omega) f _ t true (by omega) (by omega)
   |false =>
    simp only [Bool.not_false, cond_true]
    rw [hT _ t false (by omega)]
    simp only [obind_some, Bool.false_or]
    exact ih (q + 1) (by omega) f _ (t ++ (noB ++ tx1 (tmAt r2[q] 0))) _ (by omega) (by simp only [ByteArray.size_append]; omega)
theorem patom_q {n : Nat} {pred : ByteArray} {anl : Bool} {args : Rows} {t : ByteArray} {nl bad : Bool} (hn : 10000 < n) (hp : pred.size ≤ 5000) (hr : ∀ r ∈ args, TmOk n (tmAt r 0)) (hl : args.length ≤ 1000) (ht : t.size ≤ 900000) :
  ∃ nl', z97_v n pred anl args nl (byteRows t) bad = some (pst nl' (patom pred args t bad).1 (patom pred args t bad).2) := by
 have e1 : (ByteArray.mk #[40]).size = 1 := rfl
 have e2 : (pred ++ ByteArray.mk #[40]).size = pred.size + (ByteArray.mk #[40]).size := ByteArray.size_append ..
 have e3 : pred.size + 1 < 4611686018427387904 := by omega
 have hw : ∀ b, z12_v n (pred ++ ByteArray.mk #[40]) nl (byteRows t) b = _ := fun b => writes_q (bad := b) (nl := nl) (n := n) (s := pred ++ ByteArray.mk #[40]) (t := t) (by omega)
 have hdec : decide ((args.length : Int) > 4) = decide (args.length > 4) := decide_eq_decide.2 (by omega)
 have hlp : ∀ nl' bad', ∃ nl'', z97_l3 n pred anl args nl (byteRows t) bad n nl' (byteRows (t ++ (pred ++ ByteArray.mk #[40]))) bad' 0 = some (pst nl'' (pargs 0 args (t ++ (pred ++ ByteArray.mk #[40])) bad').1 (pargs 0 args (t ++ (pred ++ ByteArray.mk #[40])) bad').2) := fun nl' bad' => by
  have := patom_loop (n := n) (s0 := pred) (b1 := anl) (r2 := args) (b3 := nl) (r4 := byteRows t) (b5 := bad) hn hr hl args.length 0 (by omega) n nl' (t ++ (pred ++ ByteArray.mk #[40])) bad' (by omega) (by simp only [ByteArray.size_append]; omega)
  exact this
 rw [z97_e]
 unfold patom
 cases bad with
 |true =>
  simp only [cond_true, e3, if_true, hw, obind_some, Bool.true_or]
  exact hlp _ true
 |false =>
  simp only [cond_false, z77_q hn, obind_some, e3, if_true, hw, Bool.false_or, hdec]
  show ∃ nl', (bif !wordS pred then _ else _) = _
  cases hw2 : wordS pred with
  |false => simp only [Bool.not_false, cond_true, Bool.true_or]; exact hlp _ true
  |true => simp only [Bool.not_true, cond_false, Bool.false_or]; exact hlp _ _
end Go.Den
