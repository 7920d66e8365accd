import Derived.Test.YtbdjanjcphgjdaaGreatDoorZ30
import Derived.Test.YtbdjanjcphgjdaaGreatDoorZ18
set_option linter.unusedVariables false
set_option linter.unusedSimpArgs false
set_option linter.unusedSectionVars false
namespace Go.Den
open Go.Proofs
set_option linter.unusedVariables false
set_option linter.unusedSectionVars false
theorem obs {α β : Type} (a : α) (f : α → Option β) : obind (some a) f = f a := rfl
theorem rnumber_q {n : Nat} {t : Tm} : z30_v n t.1 t.2.1 t.2.2.1 t.2.2.2 = some (isNo t, ()) := by
 rw [z30_e]; unfold isNo
 cases (t.1 == noS) <;> rfl
theorem findN_drop {s : Seen} {p : ByteArray} : ∀ (j : Nat) (h : j < s.length), findN (s.drop j) p = if s[j].1 = p then some s[j].2 else findN (s.drop (j + 1)) p := by
 intro j h
 rw [List.drop_eq_getElem_cons h]; rfl
theorem se_get {s : Seen} {j : Nat} (h : j < s.length) : (se s).getD j [] = [DV.val (.string s[j].1), DV.val (.int .i64 s[j].2)] := by
 rw [getD_get (by unfold se; rw [List.length_map]; exact h)]
 simp only [se, List.getElem_map]
theorem se_len (s : Seen) : (se s).length = s.length := List.length_map ..
theorem se_app (s : Seen) (p : ByteArray) (m : Int) : se s ++ [[DV.val (.string p), DV.val (.int .i64 m)]] = se (s ++ [(p, m)]) := by simp [se]
def oddR (s : Seen) (p : ByteArray) (m : Int) (o : Option Int) : Seen × Bool := match o with | some k => (s, k != m) | none => (s ++ [(p, m)], false)
theorem odd_l {n : Nat} {b : Bool} {s : Seen} {p : ByteArray} {m : Int} (hs : s.length ≤ 2000000) : ∀ k j : Nat, j + k = s.length → ∀ i, k < i →
  ∃ b', z74_l2 n b (se s) p m i (j : Int) = some (((b', se (oddR s p m (findN (s.drop j) p)).1), ((oddR s p m (findN (s.drop j) p)).2, ())), ()) := by
 have hb : 4000000 ≤ big := by unfold big; omega
 intro k
 induction k with
 |zero =>
  intro j hj i hi
  obtain ⟨i, rfl⟩ : ∃ m, i = m + 1 := ⟨i - 1, by omega⟩
  have hnil : s.drop j = [] := List.drop_eq_nil_of_le (by omega)
  rw [z74_s2, hnil]
  have h1 : ¬ (j : Int) < ((se s).length : Int) := by rw [se_len]; omega
  have h2 : ((se s).length + List.length [[DV.val (Value.string p), DV.val (Value.int IntKind.i64 m)]]) * 24 ≤ 140737488355328 := by rw [se_len]; show (s.length + 1) * 24 ≤ _; omega
  simp only [h1, decide_false, cond_false]
  rw [if_pos h2]
  refine ⟨b && List.isEmpty [[DV.val (Value.string p), DV.val (Value.int IntKind.i64 m)]], ?_⟩
  rw [show appX (se s) [[DV.val (Value.string p), DV.val (Value.int IntKind.i64 m)]] = se (s ++ [(p, m)]) from se_app s p m]
  rfl
 |succ k ih =>
  intro j hj i hi
  obtain ⟨i, rfl⟩ : ∃ m, i = m + 1 := ⟨i - 1, by omega⟩
  have hlt : j < s.length := by omega
  have h1 : (j : Int) < ((se s).length : Int) := by rw [se_len]; omega
  rw [z74_s2, findN_drop j hlt, wrap_succ (show j < big by omega)]
  simp only [h1, natj, if_true, decide_true, cond_true, Int.toNat_natCast, se_get hlt]
  by_cases h : s[j].1 = p
  ·rw [if_pos h]
   have hp : (Row.S [DV.val (Value.string s[j].1), DV.val (Value.int IntKind.i64 s[j].2)] 0 == p) = true := by show (s[j].1 == p) = true; simpa using h
   rw [hp]
   exact ⟨b, rfl⟩
  ·rw [if_neg h]
   have hp : (Row.S [DV.val (Value.string s[j].1), DV.val (Value.int IntKind.i64 s[j].2)] 0 == p) = false := by show (s[j].1 == p) = false; simpa using h
   rw [hp]
   exact ih (j + 1) (by omega) i (by omega)
theorem odd_q {n : Nat} {b : Bool} {s : Seen} {p : ByteArray} {m : Int} (hs : s.length ≤ 2000000) (hn : 2000000 < n) : ∃ b', z74_v n b (se s) p m = some (((b', se (oddD s p m).1), ((oddD s p m).2, ())), ()) := by
 rw [z74_e]
 exact odd_l hs s.length 0 (by omega) n (by omega)
theorem odd_len (s : Seen) (p : ByteArray) (m : Int) : (oddD s p m).1.length ≤ s.length + 1 := by
 unfold oddD; split <;> simp
theorem aritL_len : ∀ (l : List LitD) (s : Seen) (q : Nat), (aritL s l q).1.length ≤ s.length + l.length
 |[], s, q => by unfold aritL; simp
 |a :: l, s, q => by
  unfold aritL
  have h := odd_len s a.2.1 (a.2.2.1.length : Int)
  rcases ho : oddD s a.2.1 (a.2.2.1.length : Int) with ⟨s1, bad⟩
  rw [ho] at h
  cases bad with
  |true => simp only [List.length_cons]; simp only at h; omega
  |false =>
   have := aritL_len l s1 (q + 1)
   simp only [List.length_cons]; simp only at h ⊢; omega
theorem aritD_len (s : Seen) (d : RuleD) : (aritD s d).1.length ≤ s.length + 1 + d.2.2.2.2.length := by
 unfold aritD
 have h := odd_len s d.2.1 (d.2.2.1.length : Int)
 rcases ho : oddD s d.2.1 (d.2.2.1.length : Int) with ⟨s1, bad⟩
 rw [ho] at h
 cases bad with
 |true => simp only at h ⊢; omega
 |false =>
  have := aritL_len d.2.2.2.2 s1 0
  simp only at h ⊢; omega
section
variable {n : Nat} {s0 s3 s4 s7 s10 : ByteArray} {b1 b5 b8 b11 : Bool} {j2 j9 j13 : Int} {r6 r12 : Rows}
theorem places_l (hl : r12.length ≤ 1000) : ∀ k q : Nat, q + k = r12.length → ∀ i, k < i → z25_l4 n s0 b1 j2 s3 s4 b5 r6 s7 b8 j9 s10 b11 r12 i (q : Int) = some (placeL ((r12.map litD).drop q) q, ()) := by
 have hb : 4000000 ≤ big := by unfold big; omega
 intro k
 induction k with
 |zero =>
  intro q hq i hi
  obtain ⟨i, rfl⟩ : ∃ m, i = m + 1 := ⟨i - 1, by omega⟩
  have hnil : (r12.map litD).drop q = [] := List.drop_eq_nil_of_le (by rw [List.length_map]; omega)
  rw [z25_s4, hnil]
  have h1 : ¬ (q : Int) < (r12.length : Int) := by omega
  simp only [h1, decide_false, cond_false]; rfl
 |succ k ih =>
  intro q hq i hi
  obtain ⟨i, rfl⟩ : ∃ m, i = m + 1 := ⟨i - 1, by omega⟩
  have hlt : q < r12.length := by omega
  have h1 : (q : Int) < (r12.length : Int) := by omega
  rw [z25_s4, body_drop hlt, wrap_succ (show q < big by omega)]
  simp only [h1, natj, if_true, decide_true, cond_true, Int.toNat_natCast, getD_get hlt]
  have e1 := rnumber_q (n := n) (t := (litD r12[q]).1)
  have e2 := rnumber_q (n := n) (t := (litD r12[q]).2.2.2)
  rw [show z30_v n (Row.S r12[q] 0) (Row.B r12[q] 1) (Row.I r12[q] 2) (Row.S r12[q] 3) = _ from e1, show z30_v n (Row.S r12[q] 6) (Row.B r12[q] 7) (Row.I r12[q] 8) (Row.S r12[q] 9) = _ from e2]
  simp only [obs]
  unfold placeL
  have ih' := ih (q + 1) (by omega) i (by omega)
  cases h2 : isNo (litD r12[q]).1 with
  |true => simp
  |false =>
   cases h3 : isNo (litD r12[q]).2.2.2 with
   |true => simp
   |false => simpa using ih'
theorem places_q {r : Row} (hn : 2000000 < n) (hl : (Row.R r 10).length ≤ 1000) : z25_v n (Row.S r 0) (Row.B r 1) (Row.I r 2) (Row.S r 3) (Row.S r 4) (Row.N r 5) (Row.R r 5) (Row.S r 6) (Row.B r 7) (Row.I r 8) (Row.S r 9) (Row.N r 10) (Row.R r 10) = some (placeD (ruleD r), ()) := by
 rw [z25_e]
 have h1 := rnumber_q (n := n) (t := (ruleD r).1)
 have h2 := rnumber_q (n := n) (t := (ruleD r).2.2.2.1)
 rw [show z30_v n (Row.S r 0) (Row.B r 1) (Row.I r 2) (Row.S r 3) = _ from h1, show z30_v n (Row.S r 6) (Row.B r 7) (Row.I r 8) (Row.S r 9) = _ from h2]
 simp only [obs]
 unfold placeD
 cases isNo (ruleD r).1 with
 |true => rfl
 |false =>
  cases isNo (ruleD r).2.2.2.1 with
  |true => rfl
  |false => exact places_l hl (Row.R r 10).length 0 (by omega) n (by omega)
theorem arities_l {b0 : Bool} {sn0 : Rows} (hn : 2000000 < n) (hl : r12.length ≤ 1000) : ∀ k q : Nat, q + k = r12.length → ∀ (i : Nat) (b : Bool) (s : Seen), k < i → s.length + k ≤ 1000000 →
  ∃ b', z17_l5 n b0 sn0 s0 b1 j2 s3 s4 b5 r6 s7 b8 j9 s10 b11 r12 i b (se s) (q : Int) = some (((b', se (aritL s ((r12.map litD).drop q) q).1), ((aritL s ((r12.map litD).drop q) q).2, ())), ()) := by
 have hb : 4000000 ≤ big := by unfold big; omega
 intro k
 induction k with
 |zero =>
  intro q hq i b s hi hs
  obtain ⟨i, rfl⟩ : ∃ m, i = m + 1 := ⟨i - 1, by omega⟩
  have hnil : (r12.map litD).drop q = [] := List.drop_eq_nil_of_le (by rw [List.length_map]; omega)
  rw [z17_s5, hnil]
  have h1 : ¬ (q : Int) < (r12.length : Int) := by omega
  simp only [h1, decide_false, cond_false]
  exact ⟨b, rfl⟩
 |succ k ih =>
  intro q hq i b s hi hs
  obtain ⟨i, rfl⟩ : ∃ m, i = m + 1 := ⟨i - 1, by omega⟩
  have hlt : q < r12.length := by omega
  have h1 : (q : Int) < (r12.length : Int) := by omega
  rw [z17_s5, body_drop hlt, wrap_succ (show q < big by omega)]
  simp only [h1, natj, if_true, decide_true, cond_true, Int.toNat_natCast, getD_get hlt]
  obtain ⟨b', ho⟩ := odd_q (n := n) (b := b) (s := s) (p := Row.S r12[q] 4) (m := ((Row.R r12[q] 5).length : Int)) (by omega) hn
  rw [ho]
  unfold aritL
  have he : ((litD r12[q]).2.2.1.length : Int) = ((Row.R r12[q] 5).length : Int) := by simp [litD, tms]
  rw [he, show (litD r12[q]).2.1 = Row.S r12[q] 4 from rfl]
  simp only [obs]
  have hlen := odd_len s (Row.S r12[q] 4) ((Row.R r12[q] 5).length : Int)
  rcases h : oddD s (Row.S r12[q] 4) ((Row.R r12[q] 5).length : Int) with ⟨s', bad⟩
  rw [h] at hlen
  cases bad with
  |true => exact ⟨b', rfl⟩
  |false => exact ih (q + 1) (by omega) i b' s' (by omega) (by simp only at hlen; omega)
theorem arities_q {r : Row} {b : Bool} {s : Seen} (hn : 2000000 < n) (hl : (Row.R r 10).length ≤ 1000) (hs : s.length ≤ 500000) : ∃ b', z17_v n b (se s) (Row.S r 0) (Row.B r 1) (Row.I r 2) (Row.S r 3) (Row.S r 4) (Row.N r 5) (Row.R r 5) (Row.S r 6) (Row.B r 7) (Row.I r 8) (Row.S r 9) (Row.N r 10) (Row.R r 10) =
  some (((b', se (aritD s (ruleD r)).1), ((aritD s (ruleD r)).2, ())), ()) := by
 rw [z17_e]
 obtain ⟨b', ho⟩ := odd_q (n := n) (b := b) (s := s) (p := Row.S r 4) (m := ((Row.R r 5).length : Int)) (by omega) hn
 rw [ho]
 unfold aritD
 have he : ((ruleD r).2.2.1.length : Int) = ((Row.R r 5).length : Int) := by simp [ruleD, tms]
 rw [he, show (ruleD r).2.1 = Row.S r 4 from rfl]
 simp only [obs]
 have hlen := odd_len s (Row.S r 4) ((Row.R r 5).length : Int)
 rcases h : oddD s (Row.S r 4) ((Row.R r 5).length : Int) with ⟨s', bad⟩
 rw [h] at hlen
 cases bad with
 |true => exact ⟨b', rfl⟩
 |false =>
  obtain ⟨b2, h2⟩ := arities_l (n := n) (b0 := b) (sn0 := se s) (s0 := Row.S r 0) (b1 := Row.B r 1) (j2 := Row.I r 2) (s3 := Row.S r 3) (s4 := Row.S r 4) (b5 := Row.N r 5) (r6 := Row.R r 5) (s7 := Row.S r 6) (b8 := Row.B r 7) (j9 := Row.I r 8) (s10 := Row.S r 9) (b11 := Row.N r 10) (r12 := Row.R r 10) hn hl (Row.R r 10).length 0 (by omega) n b' s' (by omega) (by simp only at hlen; omega)
  exact ⟨b2, h2⟩
theorem rfree_l (hn : 2000000 < n) (hB : BodyOk r12) : ∀ k q : Nat, q + k = r12.length → ∀ i, k < i →
  z62_l2 n s0 b1 j2 s3 s4 b5 r6 s7 b8 j9 s10 b11 r12 i (q : Int) = some (freeL s0 (r12.map litD) ((r12.map litD).drop q) q, ()) := by
 have hb : 4000000 ≤ big := by unfold big; omega
 have hl := hB.len
 intro k
 induction k with
 |zero =>
  intro q hq i hi
  obtain ⟨i, rfl⟩ : ∃ m, i = m + 1 := ⟨i - 1, by omega⟩
  have hnil : (r12.map litD).drop q = [] := List.drop_eq_nil_of_le (by rw [List.length_map]; omega)
  rw [z62_s2, hnil]
  have h1 : ¬ (q : Int) < (r12.length : Int) := by omega
  simp only [h1, decide_false, cond_false]; rfl
 |succ k ih =>
  intro q hq i hi
  obtain ⟨i, rfl⟩ : ∃ m, i = m + 1 := ⟨i - 1, by omega⟩
  have hlt : q < r12.length := by omega
  have h1 : (q : Int) < (r12.length : Int) := by omega
  rw [z62_s2, body_drop hlt, wrap_succ (show q < big by omega)]
  simp only [h1, natj, if_true, decide_true, cond_true, Int.toNat_natCast, getD_get hlt]
  unfold freeL
  rw [show (litD r12[q]).2.2.2.1 = Row.S r12[q] 6 from rfl]
  have ih' := ih (q + 1) (by omega) i (by omega)
  by_cases h : Row.S r12[q] 6 = noS
  ·rw [if_pos h, h]; exact ih'
  ·rw [if_neg h]
   have h' : (!Row.S r12[q] 6 == noS) = true := by simp [h]
   rw [h']
   obtain ⟨b', hb'⟩ := rBound_q (n := n) (s0 := s0) (s3 := s3) (s4 := s4) (s7 := s7) (s10 := s10) (b1 := b1) (b5 := b5) (b8 := b8) (b11 := b11) (j2 := j2) (j9 := j9) (j13 := (q : Int)) (r6 := r6) hn hB
   have hbl := bound_len (r12 := r12) (s0 := s0) (k := q) hB
   rw [hb', Int.toNat_natCast]
   simp only [cond_true, obs]
   rw [Has_q (by omega) (by omega)]
   by_cases h2 : Row.S r12[q] 6 ∈ boundS s0 (r12.map litD) q
   ·rw [if_pos h2, decide_eq_true h2]; exact ih'
   ·rw [if_neg h2, decide_eq_false h2]; rfl
theorem rfree_q {r : Row} (hn : 2000000 < n) (hB : BodyOk (Row.R r 10)) : z62_v n (Row.S r 0) (Row.B r 1) (Row.I r 2) (Row.S r 3) (Row.S r 4) (Row.N r 5) (Row.R r 5) (Row.S r 6) (Row.B r 7) (Row.I r 8) (Row.S r 9) (Row.N r 10) (Row.R r 10) = some (freeR (ruleD r), ()) := by
 rw [z62_e]
 have hl := hB.len
 exact rfree_l hn hB (Row.R r 10).length 0 (by omega) n (by omega)
theorem openL_cons (v : List ByteArray) (t : Tm) (l : List Tm) : openL v (t :: l) = if t.1 = noS then openL v l else if t.1 ∈ v then openL v l else true := rfl
theorem ropen_l {v : List ByteArray} {b : Bool} (hl : r6.length ≤ 2000) (hv : v.length ≤ 1900000) (hn : 2000000 < n) : ∀ k q : Nat, q + k = r6.length → ∀ i, k < i →
  z70_l5 n s0 b1 j2 s3 s4 b5 r6 s7 b8 j9 s10 b11 r12 i b (sr v) (q : Int) = some (openL v ((tms r6).drop q), ()) := by
 have hb : 4000000 ≤ big := by unfold big; omega
 intro k
 induction k with
 |zero =>
  intro q hq i hi
  obtain ⟨i, rfl⟩ : ∃ m, i = m + 1 := ⟨i - 1, by omega⟩
  have hnil : (tms r6).drop q = [] := List.drop_eq_nil_of_le (by rw [tms_len]; omega)
  rw [z70_s5, hnil]
  have h1 : ¬ (q : Int) < (r6.length : Int) := by omega
  simp only [h1, decide_false, cond_false]; rfl
 |succ k ih =>
  intro q hq i hi
  obtain ⟨i, rfl⟩ : ∃ m, i = m + 1 := ⟨i - 1, by omega⟩
  have hlt : q < r6.length := by omega
  have h1 : (q : Int) < (r6.length : Int) := by omega
  have hd : (tms r6).drop q = tmAt r6[q] 0 :: (tms r6).drop (q + 1) := by
   rw [List.drop_eq_getElem_cons (by rw [tms_len]; exact hlt)]; simp [tms]
  rw [z70_s5, hd, wrap_succ (show q < big by omega), ih (q + 1) (by omega) i (by omega)]
  simp only [h1, natj, if_true, decide_true, cond_true, Int.toNat_natCast, getD_get hlt]
  rw [openL_cons, show (tmAt r6[q] 0).1 = Row.S r6[q] 0 from rfl]
  by_cases h : Row.S r6[q] 0 = noS
  ·rw [if_pos h, h]; rfl
  ·rw [if_neg h, show (!Row.S r6[q] 0 == noS) = true by simp [h], Has_q (by omega) (by omega)]
   by_cases h2 : Row.S r6[q] 0 ∈ v
   ·rw [if_pos h2, decide_eq_true h2]; rfl
   ·rw [if_neg h2, decide_eq_false h2]; rfl
theorem ropen_q {r : Row} (hn : 2000000 < n) (hB : BodyOk (Row.R r 10)) (ha : (Row.R r 5).length ≤ 1000) : z70_v n (Row.S r 0) (Row.B r 1) (Row.I r 2) (Row.S r 3) (Row.S r 4) (Row.N r 5) (Row.R r 5) (Row.S r 6) (Row.B r 7) (Row.I r 8) (Row.S r 9) (Row.N r 10) (Row.R r 10) = some (openD (ruleD r), ()) := by
 have hb : 4000000 ≤ big := by unfold big; omega
 rw [z70_e]
 obtain ⟨b', h⟩ := rVars_q (n := n) (s0 := Row.S r 0) (b1 := Row.B r 1) (j2 := Row.I r 2) (s3 := Row.S r 3) (s4 := Row.S r 4) (b5 := Row.N r 5) (r6 := Row.R r 5) (s7 := Row.S r 6) (b8 := Row.B r 7) (j9 := Row.I r 8) (s10 := Row.S r 9) (b11 := Row.N r 10) (r12 := Row.R r 10) hn hB
 have hbl := bound_len (r12 := Row.R r 10) (s0 := Row.S r 0) (k := (Row.R r 10).length) hB
 rw [h]
 simp only [obs]
 have hl5 := ropen_l (n := n) (s0 := Row.S r 0) (b1 := Row.B r 1) (j2 := Row.I r 2) (s3 := Row.S r 3) (s4 := Row.S r 4) (b5 := Row.N r 5) (r6 := Row.R r 5) (s7 := Row.S r 6) (b8 := Row.B r 7) (j9 := Row.I r 8) (s10 := Row.S r 9) (b11 := Row.N r 10) (r12 := Row.R r 10) (v := boundS (Row.S r 0) ((Row.R r 10).map litD) (Row.R r 10).length) (b := b') (by omega) hbl hn (Row.R r 5).length 0 (by omega) n (by omega)
 rw [show (0 : Int) = ((0 : Nat) : Int) from rfl, hl5, List.drop_zero]
 unfold openD
 rw [show (ruleD r).2.2.2.2.length = (Row.R r 10).length by simp [ruleD]]
 show _ = some (openL (boundS (Row.S r 0) ((Row.R r 10).map litD) (Row.R r 10).length) (tmAt r 6 :: tms (Row.R r 5)), ())
 rw [openL_cons, show (tmAt r 6).1 = Row.S r 6 from rfl]
 by_cases h1 : Row.S r 6 = noS
 ·rw [if_pos h1, h1]; rfl
 ·rw [if_neg h1, show (!Row.S r 6 == noS) = true by simp [h1], Has_q (by omega) (by omega)]
  by_cases h2 : Row.S r 6 ∈ boundS (Row.S r 0) ((Row.R r 10).map litD) (Row.R r 10).length
  ·rw [if_pos h2, decide_eq_true h2]; rfl
  ·rw [if_neg h2, decide_eq_false h2]; rfl
end
theorem rProgram_l {n : Nat} {b0 : Bool} {r1 : Rows} (hn : 2000000 < n) (hl : r1.length ≤ 300) (h : ∀ r ∈ r1, RuleOk n r) : ∀ k q : Nat, q + k = r1.length → ∀ (i : Nat) (b : Bool) (s : Seen), k < i → s.length ≤ 1001 * q →
  z21_l5 n b0 r1 i b (se s) (q : Int) = some (outP (progS (r1.drop q) q s)) := by
 have hb : 4000000 ≤ big := by unfold big; omega
 intro k
 induction k with
 |zero =>
  intro q hq i b s hi hs
  obtain ⟨i, rfl⟩ : ∃ m, i = m + 1 := ⟨i - 1, by omega⟩
  have hnil : r1.drop q = [] := List.drop_eq_nil_of_le (by omega)
  rw [z21_s5, hnil]
  have h1 : ¬ (q : Int) < (r1.length : Int) := by omega
  simp only [h1, decide_false, cond_false]; rfl
 |succ k ih =>
  intro q hq i b s hi hs
  obtain ⟨i, rfl⟩ : ∃ m, i = m + 1 := ⟨i - 1, by omega⟩
  have hlt : q < r1.length := by omega
  have h1 : (q : Int) < (r1.length : Int) := by omega
  have hd : r1.drop q = r1[q] :: r1.drop (q + 1) := List.drop_eq_getElem_cons hlt
  have hr := h r1[q] (List.getElem_mem hlt)
  rw [z21_s5, hd, wrap_succ (show q < big by omega)]
  simp only [h1, natj, if_true, decide_true, cond_true, Int.toNat_natCast, getD_get hlt]
  rw [ref_Rule_q (by omega) hr]
  unfold progS
  cases hs' : ruleR r1[q] with
  |none => rfl
  |some u =>
   simp only [outS, obs]
   rw [places_q hn hr.blen]
   simp only [bne_self_eq_false, cond_false, obs]
   cases hp : decide (placeD (ruleD r1[q]) > -2) with
   |true => rfl
   |false =>
    simp only [cond_false]
    obtain ⟨b', ha'⟩ := arities_q (n := n) (r := r1[q]) (b := b) (s := s) hn hr.blen (by omega)
    rw [ha']
    simp only [obs]
    cases ha : decide ((aritD s (ruleD r1[q])).2 > -2) with
    |true => rfl
    |false =>
     simp only [cond_false]
     rw [rfree_q hn (bodyOk hr)]
     simp only [obs]
     cases hf : decide (freeR (ruleD r1[q]) > -2) with
     |true => rfl
     |false =>
      simp only [cond_false]
      rw [ropen_q hn (bodyOk hr) hr.len]
      simp only [obs]
      have hal := aritD_len s (ruleD r1[q])
      have hbl := hr.blen
      have hle : (ruleD r1[q]).2.2.2.2.length = (Row.R r1[q] 10).length := by simp [ruleD]
      cases ho : openD (ruleD r1[q]) with
      |true => rfl
      |false => exact ih (q + 1) (by omega) i b' _ (by omega) (by omega)
theorem rProgram_q {n : Nat} {b0 : Bool} {r1 : Rows} (hn : 2000000 < n) (hl : r1.length ≤ 300) (h : ∀ r ∈ r1, RuleOk n r) : z21_v n b0 r1 = some (outP (progC r1)) := by
 rw [z21_e]
 unfold progC
 cases hd : decide ((r1.length : Int) > 16) with
 |true => rfl
 |false => exact rProgram_l hn hl h r1.length 0 (by omega) n true [] (by omega) (by simp)
theorem progS_data : ∀ (a b : Rows) (i : Nat) (s : Seen), a.map ruleD = b.map ruleD → progS a i s = progS b i s
 |[], [], _, _, _ => rfl
 |[], _ :: _, _, _, h => by cases h
 |_ :: _, [], _, _, h => by cases h
 |x :: a, y :: b, i, s, h => by
  simp only [List.map_cons, List.cons.injEq] at h
  unfold progS
  rw [ruleR_data h.1, h.1, progS_data a b (i + 1) _ h.2]
theorem progC_data {a b : Rows} (h : a.map ruleD = b.map ruleD) : progC a = progC b := by
 unfold progC
 have hl : a.length = b.length := by have := congrArg List.length h; simpa using this
 rw [hl, progS_data a b 0 [] h]
end Go.Den
