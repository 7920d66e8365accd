import Derived.Test.YtbdjanjcphgjdaaGreatDoorZ16
set_option linter.unusedVariables false
set_option linter.unusedSimpArgs false
set_option linter.unusedSectionVars false
namespace Go.Den
open Go.Proofs
theorem refArgs_size {n : Nat} : ∀ (l : Rows) (q : Nat) (acc s : ByteArray), (∀ r ∈ l, TmOk n (tmAt r 0)) → refArgs q l acc = some s → s.size ≤ acc.size + 50 * l.length + 1
 |[], q, acc, s, _, hs => by
  cases hs
  have : (ByteArray.mk #[41]).size = 1 := rfl
  rw [ByteArray.size_append]; simp only [List.length_nil]; omega
 |r :: l, q, acc, s, h, hs => by
  unfold refArgs at hs
  have h0 := h r List.mem_cons_self
  cases ht : term1 (tmAt r 0) with
  |none => rw [ht] at hs; cases hs
  |some u =>
   rw [ht] at hs
   simp only at hs
   have hu := term1_size h0.lo h0.hi ht
   have e2 : comma.size = 2 := rfl
   have := refArgs_size l (q + 1) _ s (fun r hr => h r (List.mem_cons_of_mem _ hr)) hs
   simp only [List.length_cons]
   cases hq : decide (0 < q) with
   |true => rw [hq] at this; simp only [cond_true, ByteArray.size_append] at this; omega
   |false => rw [hq] at this; simp only [cond_false, ByteArray.size_append] at this; omega
theorem atomR_size {n : Nat} {pred : ByteArray} {args : Rows} {s : ByteArray} (h : ∀ r ∈ args, TmOk n (tmAt r 0)) (hs : atomR pred args = some s) : s.size ≤ 400 := by
 unfold atomR at hs
 cases hw : wordS pred with
 |false => rw [hw] at hs; cases hs
 |true =>
  rw [hw] at hs
  simp only [cond_true] at hs
  by_cases h4 : args.length > 4
  ·rw [decide_eq_true h4] at hs; cases hs
  ·rw [decide_eq_false h4] at hs
   simp only [cond_false] at hs
   have := refArgs_size args 0 _ s h hs
   rw [ByteArray.size_append] at this
   have e : (ByteArray.mk #[40]).size = 1 := rfl
   unfold wordS namedS at hw
   simp only [Bool.and_eq_true, decide_eq_true_eq] at hw
   omega
theorem maybeR_size {n : Nat} {a b : ByteArray} {x : Tm} {s : ByteArray} (h : TmOk n x) (ha : a.size ≤ 10) (hb : b.size ≤ 10) (hs : maybeR a x b = some s) : s.size ≤ 60 := by
 unfold maybeR at hs
 cases hn : nilT x with
 |true => rw [hn] at hs; cases hs; exact Nat.zero_le _
 |false =>
  rw [hn] at hs
  simp only [cond_false] at hs
  cases ht : term1 x with
  |none => rw [ht] at hs; cases hs
  |some u =>
   rw [ht] at hs
   cases hs
   have hu := term1_size h.lo h.hi ht
   simp only [ByteArray.size_append]; omega
theorem ref_T1 {n : Nat} {t : Tm} {s0 : ByteArray} {b1 : Bool} {j2 : Int} {s3 : ByteArray} (e : t = (s0, b1, j2, s3)) (h : TmOk n t) (hn : 10000 < n) : z48_v n s0 b1 j2 s3 = some (outS (term1 t)) := by
 subst e
 have h1 := ref_T h hn
 generalize term1 (s0, b1, j2, s3) = o at h1 ⊢
 cases o <;> exact h1
def outB (o : Option ByteArray) : (ByteArray × Bool × Unit) × Unit := match o with | some s => ((s, (true, ())), ()) | none => ((noB, (false, ())), ())
section
variable {n : Nat} {s0 : ByteArray} {b1 : Bool} {r2 : Rows}
theorem ratom_loop (hn : 10000 < n) (hr : ∀ r ∈ r2, TmOk n (tmAt r 0)) (hl : r2.length ≤ 4) : ∀ k q : Nat, q + k = r2.length → ∀ f acc, k < f → acc.size ≤ 1000 + 50 * q →
  z55_l5 n s0 b1 r2 f acc (q : Int) = some (outB (refArgs q (r2.drop q) acc)) := by
 intro k
 induction k with
 |zero =>
  intro q hq f acc hf ha
  obtain ⟨f, rfl⟩ : ∃ z, f = z + 1 := ⟨f - 1, by omega⟩
  rw [z55_s5, List.drop_eq_nil_of_le (by omega)]
  have h1 : ¬ (q : Int) < (r2.length : Int) := by omega
  simp only [h1, decide_false, cond_false, refArgs, show acc.size + 1 < 4611686018427387904 by omega, if_true]
  rfl
 |succ k ih =>
  intro q hq f acc hf ha
  obtain ⟨f, rfl⟩ : ∃ z, f = z + 1 := ⟨f - 1, by omega⟩
  have hlt : q < r2.length := by omega
  have h1 : (q : Int) < (r2.length : Int) := by omega
  have h2 : (0 : Int) ≤ (q : Int) := by omega
  have h0 := hr _ (List.getElem_mem hlt)
  have e2 : (ByteArray.mk #[44, 32]).size = 2 := rfl
  have hdec : decide ((q : Int) > 0) = decide (0 < q) := decide_eq_decide.2 (by omega)
  have hT : z48_v n (Row.S r2[q] 0) (Row.B r2[q] 1) (Row.I r2[q] 2) (Row.S r2[q] 3) = some (outS (term1 (tmAt r2[q] 0))) := ref_T1 rfl h0 hn
  rw [z55_s5, List.drop_eq_getElem_cons hlt, wrap_succ (show q < big by unfold big; omega)]
  simp only [h1, h2, if_true, decide_true, cond_true, Int.toNat_natCast, getD_get hlt, refArgs, hdec, hT]
  have n100 : ((100 : Int) != 0) = true := rfl
  cases ht : term1 (tmAt r2[q] 0) with
  |none => simp only [outS, obind_some, n100, cond_true]; rfl
  |some u =>
   have hu := term1_size h0.lo h0.hi ht
   have z1 : (acc ++ ByteArray.mk #[44, 32]).size = acc.size + (ByteArray.mk #[44, 32]).size := ByteArray.size_append ..
   simp only [outS, obind_some, bne_self_eq_false, cond_false]
   cases hq0 : decide (0 < q) with
   |true =>
    simp only [cond_true, show acc.size + 2 < 4611686018427387904 by omega, show (acc ++ ByteArray.mk #[44, 32]).size + u.size < 4611686018427387904 by omega, if_true]
    exact ih (q + 1) (by omega) f _ (by omega) (by simp only [ByteArray.size_append]; omega)
   |false =>
    simp only [cond_false, show acc.size + u.size < 4611686018427387904 by omega, if_true]
    exact ih (q + 1) (by omega) f _ (by omega) (by simp only [ByteArray.size_append]; omega)
theorem ratom_q (hn : 10000 < n) (hr : ∀ r ∈ r2, TmOk n (tmAt r 0)) : z55_v n s0 b1 r2 = some (outB (atomR s0 r2)) := by
 rw [z55_e, word_q hn]
 unfold atomR
 have hd : decide ((r2.length : Int) > 4) = decide (r2.length > 4) := decide_eq_decide.2 (by omega)
 rw [hd]
 simp only [obind_some]
 show (bif !wordS s0 then _ else _) = _
 cases hw : wordS s0 with
 |false => rfl
 |true =>
  simp only [Bool.not_true, cond_false, cond_true]
  by_cases h4 : r2.length > 4
  ·rw [decide_eq_true h4]; rfl
  ·rw [decide_eq_false h4]
   have e : (ByteArray.mk #[40]).size = 1 := rfl
   unfold wordS namedS at hw
   simp only [Bool.and_eq_true, decide_eq_true_eq] at hw
   simp only [cond_false, show s0.size + 1 < 4611686018427387904 by omega, if_true]
   exact ratom_loop hn hr (by omega) r2.length 0 (by omega) n _ (by omega) (by rw [ByteArray.size_append]; omega)
end
def outM (a b : ByteArray) (o : Option ByteArray) : (ByteArray × Bool × Unit) × Unit := match o with | some s => ((s, (true, ())), ()) | none => ((a ++ noB ++ b, (false, ())), ())
theorem rmaybe_q {n : Nat} {a b : ByteArray} {x : Tm} (hn : 10000 < n) (h : TmOk n x) (ha : a.size ≤ 10) (hb : b.size ≤ 10) : z36_v n a x.1 x.2.1 x.2.2.1 x.2.2.2 b = some (outM a b (maybeR a x b)) := by
 rw [z36_e, z69_e]
 unfold maybeR
 simp only [obind_some]
 show (bif nilT x then _ else _) = _
 cases nilT x with
 |true => rfl
 |false =>
  simp only [cond_false]
  rw [ref_T1 rfl h hn]
  cases ht : term1 x with
  |none =>
   have e0 : noB.size = 0 := rfl
   have z1 : (a ++ noB).size = a.size + noB.size := ByteArray.size_append ..
   simp only [outS, obind_some, show a.size + noB.size < 4611686018427387904 by omega, show (a ++ noB).size + b.size < 4611686018427387904 by omega, if_true]
   rfl
  |some u =>
   have hu := term1_size h.lo h.hi ht
   have z1 : (a ++ u).size = a.size + u.size := ByteArray.size_append ..
   simp only [outS, obind_some, show a.size + u.size < 4611686018427387904 by omega, show (a ++ u).size + b.size < 4611686018427387904 by omega, if_true]
   rfl
end Go.Den
