import Derived.Test.YtefebdknnedioaaPB
import Derived.Test.YtefebdknnedioaaLxB
set_option linter.unusedVariables false
set_option linter.unusedSimpArgs false
set_option linter.unusedSectionVars false
/- A program's text: the code's answer and the document's. -/
namespace Go.Den
open Go.Proofs
set_option maxRecDepth 10000
/-- The rules of a text, or what is wrong first, and where. -/
def parseE (s : ByteArray) : Except (Int × Int) Rows :=
  match tokensE s with
  | .ok l => progP s.size l
  | .error p => .error ((p.1 : Int), p.2)
theorem tokF_err (s : ByteArray) : ∀ k j p, tokF s k j = .error p → p.2 = 70 ∨ p.2 = 71
  | 0, j, p, h => by cases h
  | k + 1, j, p, h => by
    unfold tokF at h
    split at h
    · split at h
      · cases h; exact .inl rfl
      · split at h
        · cases h; exact .inr rfl
        · split at h
          · cases h
          · rename_i q hq; cases h; exact tokF_err s k _ _ hq
    · cases h
theorem tokensE_err {s : ByteArray} {p : Nat × Int} (h : tokensE s = .error p) : (p.2 != 0) = true := by
  unfold tokensE at h
  split at h
  · cases h; rfl
  · rcases tokF_err s _ _ _ h with h | h <;> rw [h] <;> rfl
theorem program_pq {n : Nat} (hn : 5000 < n) (s : ByteArray) : parse_Program_v n s = some (encG (parseE s)) := by
  have h := lex_Tokens_q (s := s) hn
  unfold parseE
  rcases ht : tokensE s with p | l
  · rw [ht] at h
    rw [program_p n (by omega) h]
    simp only [tokensE_err ht, cond_true]
  · rw [ht] at h
    rw [program_p n (by omega) h]; rfl
theorem program_rq {n : Nat} (hn : 5000 < n) (s : ByteArray) : ref08_Program_v n s = some (encG (parseE s)) := by
  have h := ref_Tokens_q (s := s) hn
  unfold parseE
  rcases ht : tokensE s with p | l
  · rw [ht] at h
    rw [program_r n (by omega) h]
    simp only [tokensE_err ht, cond_true]
  · rw [ht] at h
    rw [program_r n (by omega) h]; rfl
/-! rules are like themselves -/
theorem Terms_loop {n : Nat} {b0 b2 : Bool} {r : Rows} (hb : r.length < big) : ∀ k j : Nat, j + k = r.length → ∀ i, k < i → ref05_Terms_l4 n b0 r b2 r i (j : Int) = some (true, ()) := by
  intro k
  induction k with
  | zero =>
    intro j hj i hi
    obtain ⟨i, rfl⟩ : ∃ z, i = z + 1 := ⟨i - 1, by omega⟩
    rw [ref05_Terms_s4]
    have h1 : ¬ ((j : Int) < (r.length : Int)) := by omega
    simp only [h1, decide_false, cond_false]
  | succ k ih =>
    intro j hj i hi
    obtain ⟨i, rfl⟩ : ∃ z, i = z + 1 := ⟨i - 1, by omega⟩
    rw [ref05_Terms_s4]
    have h1 : (j : Int) < (r.length : Int) := by omega
    have h0 : (0 : Int) ≤ (j : Int) := by omega
    rw [wrap_succ (by omega), ih (j + 1) (by omega) i (by omega)]
    simp only [h1, h0, decide_true, cond_true, if_true, beq_self_eq_true, Bool.and_self, Bool.not_true, cond_false]
theorem Terms_q {n : Nat} {b0 b2 : Bool} {r : Rows} (hb : r.length < big) (hn : r.length < n) : ref05_Terms_v n b0 r b2 r = some (true, ()) := by
  rw [ref05_Terms_e]
  simp only [bne_self_eq_false, cond_false]
  exact Terms_loop hb r.length 0 (by omega) n hn
/-- Lists of rules that are not too long. -/
def shortB (N : Nat) (b : Rows) : Prop := b.length < N ∧ ∀ y ∈ b, (Row.R y 5).length < N
def shortL (N : Nat) (l : Rows) : Prop := l.length < N ∧ ∀ x ∈ l, (Row.R x 5).length < N ∧ shortB N (Row.R x 10)
theorem SameRule_q {n : Nat} {s0 : ByteArray} {b1 : Bool} {j2 : Int} {s3 s4 : ByteArray} {b5 : Bool} {r6 : Rows} {s7 : ByteArray} {b8 : Bool} {j9 : Int} {s10 : ByteArray} {b11 : Bool} {r12 : Rows} {b18 b24 : Bool} {N : Nat} (hN : N ≤ big) (hn : N ≤ n) (ha : r6.length < N) (hs : shortB N r12) :
    ref05_SameRule_v n s0 b1 j2 s3 s4 b5 r6 s7 b8 j9 s10 b11 r12 s0 b1 j2 s3 s4 b18 r6 s7 b8 j9 s10 b24 r12 = some (true, ()) := by
  rw [ref05_SameRule_e]
  simp only [beq_self_eq_true, Bool.and_self, Bool.not_true, cond_false, Terms_q (show r6.length < big by omega) (show r6.length < n by omega), obind_some, bne_self_eq_false]
  have key : ∀ k j : Nat, j + k = r12.length → ∀ i, k < i → ref05_SameRule_l4 n s0 b1 j2 s3 s4 b5 r6 s7 b8 j9 s10 b11 r12 s0 b1 j2 s3 s4 b18 r6 s7 b8 j9 s10 b24 r12 i (j : Int) = some (true, ()) := by
    intro k
    induction k with
    | zero =>
      intro j hj i hi
      obtain ⟨i, rfl⟩ : ∃ z, i = z + 1 := ⟨i - 1, by omega⟩
      rw [ref05_SameRule_s4]
      have h1 : ¬ ((j : Int) < (r12.length : Int)) := by omega
      simp only [h1, decide_false, cond_false]
    | succ k ih =>
      intro j hj i hi
      obtain ⟨i, rfl⟩ : ∃ z, i = z + 1 := ⟨i - 1, by omega⟩
      rw [ref05_SameRule_s4]
      have h1 : (j : Int) < (r12.length : Int) := by omega
      have h0 : (0 : Int) ≤ (j : Int) := by omega
      have hm := hs.2 _ (getD_mem (rows := r12) (j := j) (by omega))
      have := hs.1
      rw [wrap_succ (by omega), ih (j + 1) (by omega) i (by omega)]
      simp only [h1, h0, decide_true, cond_true, if_true, beq_self_eq_true, Bool.and_self, Bool.not_true, cond_false, Int.toNat_natCast,
        Terms_q (show (Row.R (List.getD r12 j []) 5).length < big by omega) (show (Row.R (List.getD r12 j []) 5).length < n by omega), obind_some]
  exact key r12.length 0 (by omega) n (by have := hs.1; omega)
theorem Like_q {n : Nat} {b0 b2 : Bool} {r : Rows} {N : Nat} (hN : N ≤ big) (hn : N ≤ n) (hs : shortL N r) : ref05_Like_v n b0 r b2 r = some (true, ()) := by
  rw [ref05_Like_e]
  simp only [bne_self_eq_false, cond_false]
  have key : ∀ k j : Nat, j + k = r.length → ∀ i, k < i → ref05_Like_l4 n b0 r b2 r i (j : Int) = some (true, ()) := by
    intro k
    induction k with
    | zero =>
      intro j hj i hi
      obtain ⟨i, rfl⟩ : ∃ z, i = z + 1 := ⟨i - 1, by omega⟩
      rw [ref05_Like_s4]
      have h1 : ¬ ((j : Int) < (r.length : Int)) := by omega
      simp only [h1, decide_false, cond_false]
    | succ k ih =>
      intro j hj i hi
      obtain ⟨i, rfl⟩ : ∃ z, i = z + 1 := ⟨i - 1, by omega⟩
      rw [ref05_Like_s4]
      have h1 : (j : Int) < (r.length : Int) := by omega
      have h0 : (0 : Int) ≤ (j : Int) := by omega
      have hm := hs.2 _ (getD_mem (rows := r) (j := j) (by omega))
      have := hs.1
      rw [wrap_succ (by omega), ih (j + 1) (by omega) i (by omega)]
      simp only [h1, h0, decide_true, cond_true, if_true, Int.toNat_natCast, SameRule_q hN hn hm.1 hm.2, obind_some, Bool.not_true, cond_false]
  exact key r.length 0 (by omega) n (by have := hs.1; omega)
/-! what a text tells is short -/
theorem argsL_short : ∀ (k : Nat) (j : Int) (r acc : Rows) (a r' : Rows), argsL k j r acc = .ok (a, r') → a.length ≤ acc.length + k
  | 0, j, r, acc, a, r', h => by simp [argsL] at h
  | k + 1, j, r, acc, a, r', h => by
    unfold argsL at h
    cases hc : (beg r && acc.length == 4) with
    | true => rw [hc] at h; simp at h
    | false =>
      rw [hc, cond_false] at h
      rcases ht : termP j r with e | ⟨t, r1⟩
      · rw [ht] at h; simp at h
      · rw [ht, bnd_ok] at h
        cases hd : isS sC r1 with
        | true => rw [hd, cond_true] at h; cases h; simp
        | false =>
          rw [hd, cond_false] at h
          rcases hm : mustP sComma j r1 with e | ⟨_, r2⟩
          · rw [hm] at h; simp at h
          · rw [hm, bnd_ok] at h
            have := argsL_short k _ _ _ _ _ h
            simp at this; omega
theorem argsP_short {j : Int} {r a r' : Rows} (h : argsP j r = .ok (a, r')) : a.length < 9 := by
  unfold argsP at h
  rcases hm : mustP sO j r with e | ⟨_, r1⟩
  · rw [hm] at h; simp at h
  · rw [hm, bnd_ok] at h
    cases hd : isS sC r1 with
    | true => rw [hd, cond_true] at h; cases h; simp
    | false =>
      rw [hd, cond_false] at h
      have := argsL_short 5 _ _ _ _ _ h
      simp at this; omega
theorem litB_short {t : T4} {j : Int} {r r' : Rows} {x : L10} (h : litB t j r = .ok (x, r')) : x.2.2.2.2.2.1.2.length < 9 := by
  unfold litB at h
  rcases hm : wordP j r with e | ⟨p, r1⟩
  · rw [hm] at h; simp at h
  · rw [hm, bnd_ok] at h
    rcases ha : argsP j r1 with e | ⟨a, r2⟩
    · rw [ha] at h; simp at h
    · rw [ha, bnd_ok] at h
      have := argsP_short ha
      cases hd : isS sAt r2 with
      | true =>
        rw [hd, cond_true] at h
        rcases ht : termP j r2.tail with e | ⟨t, r3⟩
        · rw [ht] at h; simp at h
        · rw [ht, bnd_ok] at h; cases h; exact this
      | false => rw [hd, cond_false] at h; cases h; exact this
theorem litP_short {j : Int} {r r' : Rows} {x : L10} (h : litP j r = .ok (x, r')) : (Row.R (row10 x) 5).length < 9 := by
  show x.2.2.2.2.2.1.2.length < 9
  unfold litP at h
  cases hc : (said r || kd r != 1) with
  | true =>
    rw [hc, cond_true] at h
    rcases ht : termP j r with e | ⟨t, r1⟩
    · rw [ht] at h; simp at h
    · rw [ht, bnd_ok] at h
      rcases hm : mustP sSays j r1 with e | ⟨_, r2⟩
      · rw [hm] at h; simp at h
      · rw [hm, bnd_ok] at h; exact litB_short h
  | false => rw [hc, cond_false] at h; exact litB_short h
theorem bodyL_short : ∀ (k : Nat) (j : Int) (r acc : Rows) (a r' : Rows), bodyL k j r acc = .ok (a, r') → (∀ y ∈ acc, (Row.R y 5).length < 9) → a.length ≤ acc.length + k ∧ ∀ y ∈ a, (Row.R y 5).length < 9
  | 0, j, r, acc, a, r', h, _ => by simp [bodyL] at h
  | k + 1, j, r, acc, a, r', h, hacc => by
    unfold bodyL at h
    cases hc : (beg r && acc.length == 4) with
    | true => rw [hc] at h; simp at h
    | false =>
      rw [hc, cond_false] at h
      rcases ht : litP j r with e | ⟨t, r1⟩
      · rw [ht] at h; simp at h
      · rw [ht, bnd_ok] at h
        have hacc' : ∀ y ∈ acc ++ [row10 t], (Row.R y 5).length < 9 := by
          intro y hy
          rcases List.mem_append.1 hy with hy | hy
          · exact hacc y hy
          · rw [List.mem_singleton.1 hy]; exact litP_short ht
        cases hd : isS sDot r1 with
        | true => rw [hd, cond_true] at h; cases h; exact ⟨by simp, hacc'⟩
        | false =>
          rw [hd, cond_false] at h
          rcases hm : mustP sComma j r1 with e | ⟨_, r2⟩
          · rw [hm] at h; simp at h
          · rw [hm, bnd_ok] at h
            obtain ⟨h1, h2⟩ := bodyL_short k _ _ _ _ _ h hacc'
            exact ⟨by simp at h1; omega, h2⟩
theorem ruleB_short {h : T4} {p : ByteArray} {a : Rows} {t : T4} {j : Int} {r r' : Rows} {x : R11} (ha : a.length < 9) (hh : ruleB h p a t j r = .ok (x, r')) : (Row.R (row11 x) 5).length < 9 ∧ shortB 9 (Row.R (row11 x) 10) := by
  unfold ruleB at hh
  rcases hm : mustP sIf j r with e | ⟨_, r1⟩
  · rw [hm] at hh; simp at hh
  · rw [hm, bnd_ok] at hh
    rcases hb : bodyL 5 j r1 [] with e | ⟨b, r2⟩
    · rw [hb] at hh; simp at hh
    · rw [hb, bnd_ok] at hh
      obtain ⟨h1, h2⟩ := bodyL_short 5 _ _ _ _ _ hb (by simp)
      cases hh
      exact ⟨ha, by simp at h1; show b.length < 9; omega, h2⟩
theorem ruleP_short {j : Int} {r r' : Rows} {x : R11} (h : ruleP j r = .ok (x, r')) : (Row.R (row11 x) 5).length < 9 ∧ shortB 9 (Row.R (row11 x) 10) := by
  unfold ruleP at h
  rcases h0 : termP j r with e | ⟨t, r1⟩
  · rw [h0] at h; simp at h
  rw [h0, bnd_ok] at h
  rcases h1 : mustP sColon j r1 with e | ⟨_, r2⟩
  · rw [h1] at h; simp at h
  rw [h1, bnd_ok] at h
  rcases h2 : wordP j r2 with e | ⟨p, r3⟩
  · rw [h2] at h; simp at h
  rw [h2, bnd_ok] at h
  rcases h3 : argsP j r3 with e | ⟨a, r4⟩
  · rw [h3] at h; simp at h
  rw [h3, bnd_ok] at h
  have ha := argsP_short h3
  cases hc : isS sTo r4 with
  | false => rw [hc, cond_false] at h; exact ruleB_short ha h
  | true =>
    rw [hc, cond_true] at h
    rcases h4 : termP j r4.tail with e | ⟨to, r5⟩
    · rw [h4] at h; simp at h
    rw [h4, bnd_ok] at h
    exact ruleB_short ha h
theorem progL_short : ∀ (k : Nat) (j : Int) (r acc l : Rows), progL k j r acc = .ok l → (∀ x ∈ acc, (Row.R x 5).length < 9 ∧ shortB 9 (Row.R x 10)) → l.length ≤ acc.length + k ∧ ∀ x ∈ l, (Row.R x 5).length < 9 ∧ shortB 9 (Row.R x 10)
  | 0, j, r, acc, l, h, _ => by simp [progL] at h
  | k + 1, j, r, acc, l, h, hacc => by
    unfold progL at h
    cases hr : r.isEmpty with
    | true => rw [hr, cond_true] at h; cases h; exact ⟨by omega, hacc⟩
    | false =>
      rw [hr, cond_false] at h
      cases hc : (beg r && acc.length == 16) with
      | true => rw [hc, cond_true] at h; cases h
      | false =>
        rw [hc, cond_false] at h
        rcases ht : ruleP j r with ⟨a, e, r'⟩ | ⟨x, r1⟩
        · rw [ht] at h; cases h
        · rw [ht] at h
          obtain ⟨h1, h2⟩ := progL_short k _ _ _ _ h (by
            intro y hy
            rcases List.mem_append.1 hy with hy | hy
            · exact hacc y hy
            · rw [List.mem_singleton.1 hy]; exact ruleP_short ht)
          exact ⟨by simp at h1; omega, h2⟩
theorem shortB.mono {N M : Nat} (h : N ≤ M) {b : Rows} (hb : shortB N b) : shortB M b := ⟨by have := hb.1; omega, fun y hy => by have := hb.2 y hy; omega⟩
theorem parseE_short {s : ByteArray} {l : Rows} (h : parseE s = .ok l) : shortL 64 l := by
  unfold parseE at h
  rcases ht : tokensE s with p | t
  · rw [ht] at h; cases h
  · rw [ht] at h
    obtain ⟨h1, h2⟩ := progL_short 17 _ _ _ _ h (by simp)
    exact ⟨by simp at h1; omega, fun x hx => ⟨by have := (h2 x hx).1; omega, (h2 x hx).2.mono (by omega)⟩⟩
theorem live_n {n : Nat} (hn : 5000 < n) : law08_live_v n = some (true, ()) := by
  rw [law08_live_e, program_pq hn, program_pq hn, program_pq hn]
  simp only [obind_some]
  kernel_rfl
theorem law08_ParsePrograms_pure (s0 : ByteArray) (_h : s0.size ≤ reachBytes) : ∃ n, law08_ParsePrograms_v n s0 = some (true, ()) := by
  refine ⟨6000, ?_⟩
  rw [law08_ParsePrograms_e, program_pq (by omega), program_rq (by omega)]
  simp only [obind_some]
  have hl : ∀ b b', ref05_Like_v 6000 b (encG (parseE s0)).1.1.2 b' (encG (parseE s0)).1.1.2 = some (true, ()) := by
    intro b b'
    refine Like_q (N := 64) (by unfold big; omega) (by omega) ?_
    rcases hp : parseE s0 with ⟨a, e⟩ | l
    · exact ⟨by simp [encG], by simp [encG]⟩
    · exact parseE_short hp
  rw [hl]
  simp only [obind_some, cond_true, beq_self_eq_true, live_n (show 5000 < 6000 by omega)]
end Go.Den
/- What is wrong is told at a token's place, or at the end. -/
namespace Go.Den
open Go.Proofs
set_option maxRecDepth 10000
def Good {α : Type} (j : Int) (r : Rows) (x : Res α) : Prop :=
  match x with
  | .ok (_, r') => r' <:+ r
  | .error (a, e, _) => (e = 80 ∨ e = 81) ∧ ∃ r'', r'' <:+ r ∧ a = at_ j r''
theorem Good.lift {α : Type} {j : Int} {r r' : Rows} {x : Res α} (h : r' <:+ r) (hx : Good j r' x) : Good j r x := by
  rcases x with ⟨a, e, r1⟩ | ⟨v, r1⟩
  · obtain ⟨h1, r'', h2, h3⟩ := hx
    exact ⟨h1, r'', h2.trans h, h3⟩
  · exact List.IsSuffix.trans hx h
theorem good_bnd {α β : Type} {j : Int} {r : Rows} {x : Res α} {f : α → Rows → Res β} (h1 : Good j r x) (h2 : ∀ v r', Good j r' (f v r')) : Good j r (bnd x f) := by
  rcases x with ⟨a, e, r1⟩ | ⟨v, r1⟩
  · exact h1
  · exact (h2 v r1).lift h1
theorem good_here {α : Type} {j e : Int} {r : Rows} (h : e = 80 ∨ e = 81) : Good j r (.error (at_ j r, e, r) : Res α) := ⟨h, r, List.suffix_refl r, rfl⟩
theorem good_ok {α : Type} {j : Int} {r : Rows} {v : α} : Good j r (.ok (v, r) : Res α) := List.suffix_refl r
theorem good_tail {α : Type} {j : Int} {r : Rows} {v : α} : Good j r (.ok (v, r.tail) : Res α) := List.tail_suffix r
theorem good_cond {α : Type} {j : Int} {r : Rows} {c : Bool} {x y : Res α} (h1 : Good j r x) (h2 : Good j r y) : Good j r (bif c then x else y) := by cases c; exact h2; exact h1
theorem good_term (j : Int) (r : Rows) : Good j r (termP j r) := good_cond good_tail (good_here (.inl rfl))
theorem good_must (s : ByteArray) (j : Int) (r : Rows) : Good j r (mustP s j r) := good_cond good_tail (good_here (.inl rfl))
theorem good_word (j : Int) (r : Rows) : Good j r (wordP j r) := good_cond good_tail (good_here (.inl rfl))
theorem good_argsL : ∀ (k : Nat) (j : Int) (r acc : Rows), Good j r (argsL k j r acc)
  | 0, _, _, _ => good_here (.inl rfl)
  | k + 1, j, r, acc => good_cond (good_here (.inr rfl)) (good_bnd (good_term _ _) fun t r => good_cond good_tail (good_bnd (good_must _ _ _) fun _ r => good_argsL k j r _))
theorem good_args (j : Int) (r : Rows) : Good j r (argsP j r) := good_bnd (good_must _ _ _) fun _ r => good_cond good_tail (good_argsL _ _ _ _)
theorem good_litB (t : T4) (j : Int) (r : Rows) : Good j r (litB t j r) :=
  good_bnd (good_word _ _) fun p r => good_bnd (good_args _ _) fun a r => good_cond ((good_bnd (good_term _ _) fun _ _ => good_ok).lift (List.tail_suffix r)) good_ok
theorem good_lit (j : Int) (r : Rows) : Good j r (litP j r) := good_cond (good_bnd (good_term _ _) fun t r => good_bnd (good_must _ _ _) fun _ r => good_litB _ _ _) (good_litB _ _ _)
theorem good_bodyL : ∀ (k : Nat) (j : Int) (r acc : Rows), Good j r (bodyL k j r acc)
  | 0, _, _, _ => good_here (.inl rfl)
  | k + 1, j, r, acc => good_cond (good_here (.inr rfl)) (good_bnd (good_lit _ _) fun t r => good_cond good_tail (good_bnd (good_must _ _ _) fun _ r => good_bodyL k j r _))
theorem good_ruleB (h : T4) (p : ByteArray) (a : Rows) (t : T4) (j : Int) (r : Rows) : Good j r (ruleB h p a t j r) :=
  good_bnd (good_must _ _ _) fun _ r => good_bnd (good_bodyL _ _ _ _) fun _ _ => good_ok
theorem good_rule (j : Int) (r : Rows) : Good j r (ruleP j r) :=
  good_bnd (good_term _ _) fun h r => good_bnd (good_must _ _ _) fun _ r => good_bnd (good_word _ _) fun p r => good_bnd (good_args _ _) fun a r =>
    good_cond ((good_bnd (good_term _ _) fun t r => good_ruleB _ _ _ _ _ _).lift (List.tail_suffix r)) (good_ruleB _ _ _ _ _ _)
theorem progL_err : ∀ (k : Nat) (j : Int) (r acc : Rows) (a e : Int), progL k j r acc = .error (a, e) → (e = 80 ∨ e = 81) ∧ ∃ r'', r'' <:+ r ∧ a = at_ j r''
  | 0, j, r, acc, a, e, h => by cases h; exact ⟨.inl rfl, r, List.suffix_refl r, rfl⟩
  | k + 1, j, r, acc, a, e, h => by
    unfold progL at h
    cases hr : r.isEmpty with
    | true => rw [hr, cond_true] at h; cases h
    | false =>
      rw [hr, cond_false] at h
      cases hc : (beg r && acc.length == 16) with
      | true => rw [hc, cond_true] at h; cases h; exact ⟨.inr rfl, r, List.suffix_refl r, rfl⟩
      | false =>
        rw [hc, cond_false] at h
        have hg := good_rule j r
        rcases ht : ruleP j r with ⟨a', e', r'⟩ | ⟨x, r1⟩
        · rw [ht] at h hg; cases h; exact hg
        · rw [ht] at h hg
          obtain ⟨h1, r'', h2, h3⟩ := progL_err k _ _ _ _ _ h
          exact ⟨h1, r'', h2.trans hg, h3⟩
theorem ruleP_beg {j : Int} {r r' : Rows} {x : R11} (h : ruleP j r = .ok (x, r')) : beg r = true := by
  cases hb : beg r with
  | true => rfl
  | false => obtain ⟨e, he⟩ := ruleP_nb (j := j) hb; rw [he] at h; cases h
theorem progL_len : ∀ (k : Nat) (j : Int) (r acc l : Rows), progL k j r acc = .ok l → acc.length ≤ 16 → acc.length ≤ l.length ∧ l.length ≤ 16
  | 0, j, r, acc, l, h, _ => by simp [progL] at h
  | k + 1, j, r, acc, l, h, hacc => by
    unfold progL at h
    cases hr : r.isEmpty with
    | true => rw [hr, cond_true] at h; cases h; exact ⟨Nat.le_refl _, hacc⟩
    | false =>
      rw [hr, cond_false] at h
      cases hc : (beg r && acc.length == 16) with
      | true => rw [hc, cond_true] at h; cases h
      | false =>
        rw [hc, cond_false] at h
        rcases ht : ruleP j r with ⟨a', e', r'⟩ | ⟨x, r1⟩
        · rw [ht] at h; cases h
        · rw [ht] at h
          rw [ruleP_beg ht, Bool.true_and] at hc
          have : acc.length ≠ 16 := by simpa using hc
          have := progL_len k _ _ _ _ h (by simp; omega)
          simp at this
          omega
theorem places_loop {n : Nat} {s : ByteArray} {b5 b9 : Bool} {tk : Rows} {a e : Int} (hb : tk.length < big) (hn : 5000 < n) (he : e = 80 ∨ e = 81) : ∀ k j : Nat, j + k = tk.length → ∀ i, k < i → ∀ met : Bool, (met = true ∨ ∃ q, j ≤ q ∧ q < tk.length ∧ a = Row.I (List.getD tk q []) 3) →
    law08_ParsePlaces_l9 n s i b5 [] a e b9 tk met (j : Int) = some (true, ()) := by
  intro k
  induction k with
  | zero =>
    intro j hj i hi met hm
    obtain ⟨i, rfl⟩ : ∃ z, i = z + 1 := ⟨i - 1, by omega⟩
    rw [law08_ParsePlaces_s9]
    have h1 : ¬ ((j : Int) < (tk.length : Int)) := by omega
    have hmet : met = true := by
      rcases hm with hm | ⟨q, h1, h2, _⟩
      · exact hm
      · omega
    subst hmet
    rcases he with rfl | rfl
    · simp only [h1, decide_false, cond_false, cond_true, live_n hn, obind_some]; rfl
    · simp only [h1, decide_false, cond_false, cond_true, live_n hn, obind_some]; rfl
  | succ k ih =>
    intro j hj i hi met hm
    obtain ⟨i, rfl⟩ : ∃ z, i = z + 1 := ⟨i - 1, by omega⟩
    rw [law08_ParsePlaces_s9, wrap_succ (by omega)]
    have h1 : (j : Int) < (tk.length : Int) := by omega
    have h0 : (0 : Int) ≤ (j : Int) := by omega
    simp only [h1, h0, decide_true, cond_true, if_true, Int.toNat_natCast]
    cases met with
    | true => exact ih (j + 1) (by omega) i (by omega) true (.inl rfl)
    | false =>
      simp only [cond_false]
      refine ih (j + 1) (by omega) i (by omega) _ ?_
      rcases hm with hm | ⟨q, h1, h2, h3⟩
      · cases hm
      · by_cases hq : q = j
        · subst hq; left; rw [h3]; simp
        · exact .inr ⟨q, by omega, h2, h3⟩
theorem law08_ParsePlaces_pure (s0 : ByteArray) (_h : s0.size ≤ reachBytes) : ∃ n, law08_ParsePlaces_v n s0 = some (true, ()) := by
  refine ⟨6000, ?_⟩
  rw [law08_ParsePlaces_e, program_pq (by omega), ref_Tokens_q (by omega), live_n (by omega)]
  simp only [obind_some]
  unfold parseE
  rcases ht : tokensE s0 with p | tk
  · have hne := tokensE_err ht
    have hz : (p.2 == 0) = false := by simpa [bne] using hne
    simp only [encG, hz, cond_false, tokRes, obind_some, hne, cond_true, beq_self_eq_true]
    rfl
  · have hlen := tokensE_len ht
    rcases hp : progP s0.size tk with ⟨a, e⟩ | l
    · obtain ⟨he, r'', hs, ha⟩ := progL_err _ _ _ _ _ _ hp
      have hz : (e == 0) = false := by rcases he with rfl | rfl <;> rfl
      have e0 : ((0 : Int) != 0) = false := rfl
      simp only [hp, encG, hz, cond_false, tokRes, obind_some, e0, List.nil_append]
      have hb : tk.length < big := by unfold big; omega
      refine places_loop (n := 6000) (tk := tk) hb (by omega) he tk.length 0 (by omega) 6000 (by omega) _ ?_
      cases r'' with
      | nil => left; rw [ha]; simp [at_]
      | cons t r =>
        right
        obtain ⟨pre, hpre⟩ := hs
        refine ⟨pre.length, Nat.zero_le _, by rw [← hpre]; simp, ?_⟩
        rw [ha, ← hpre, List.getD_eq_getElem?_getD, List.getElem?_append_right (Nat.le_refl _)]
        simp [at_]
    · have h16 := (progL_len _ _ _ _ _ hp (by simp)).2
      have hle : ((l.length : Nat) : Int) ≤ 16 := by omega
      simp only [hp, encG, beq_self_eq_true, cond_true, hle, decide_true]
end Go.Den
