import Derived.Test.YtbdjanjcphgjdaaGreatDoorZ25
set_option linter.unusedVariables false
set_option linter.unusedSimpArgs false
set_option linter.unusedSectionVars false
namespace Go.Den
open Go.Proofs
set_option maxRecDepth 10000
theorem rule_p (n : Nat) (hn : 5 ≤ n) (b : Bool) (r : Rows) (j : Int) : z96_v n b r j = some (encP r0 b j (ruleP j r)) := by
 rw [z96_e, term_p]
 unfold ruleP
 rcases termP j r with ⟨x, e, r'⟩ | ⟨h, r1⟩
 ·rfl
 simp only [encP_ok, obind_some, cond_false, bnd_ok, must_p]
 rcases mustP sColon j r1 with ⟨x, e, r'⟩ | ⟨_, r2⟩
 ·rfl
 simp only [encP_ok, obind_some, cond_false, bnd_ok, word_p]
 rcases wordP j r2 with ⟨x, e, r'⟩ | ⟨p, r3⟩
 ·rfl
 simp only [encP_ok, obind_some, cond_false, bnd_ok, args_p n hn]
 rcases argsP j r3 with ⟨x, e, r'⟩ | ⟨a, r4⟩
 ·rfl
 simp only [encP_ok, obind_some, cond_false, bnd_ok, pass_p]
 cases hc : isS sTo r4 with
 |false =>
  simp only [cond_false, tailIf]
  unfold ruleB
  rcases hm : mustP sIf j r4 with ⟨x, e, r'⟩ | ⟨_, r5⟩
  ·rfl
  simp only [encP_ok, obind_some, cond_false, bnd_ok]
  exact body_l n hn b r j h p a.isEmpty a t0 4 n b r5 j true [] rfl (by omega)
 |true =>
  simp only [cond_true, tailIf, term_p]
  rcases termP j r4.tail with ⟨x, e, r'⟩ | ⟨t, r5⟩
  ·rfl
  simp only [encP_ok, obind_some, cond_false, bnd_ok, must_p]
  unfold ruleB
  rcases hm : mustP sIf j r5 with ⟨x, e, r'⟩ | ⟨_, r6⟩
  ·rfl
  simp only [encP_ok, obind_some, cond_false, bnd_ok]
  exact body_l n hn b r j h p a.isEmpty a t 4 n b r6 j true [] rfl (by omega)
def encG : Except (Int × Int) Rows → ((Bool × Rows) × Int × Int × Unit) × Unit
 | .ok l => (((l.isEmpty, l), 0, 0, ()), ())
 | .error (a, e) => (((true, []), a, e, ()), ())
theorem ruleP_nb {j : Int} {r : Rows} (h : beg r = false) : ∃ e, ruleP j r = .error e := ⟨_, by unfold ruleP; rw [termP_f h]; rfl⟩
theorem prog_l (n : Nat) (hn : 5 ≤ n) (s : ByteArray) (j4 j5 : Int) : ∀ (k i : Nat) (b : Bool) (r : Rows) (j : Int) (nl : Bool) (acc : Rows), acc.length + k = 16 → k < i → nl = acc.isEmpty →
  z14_l6 n s i b r j4 j5 j nl acc = some (encG (progL (k + 1) j r acc)) := by
 intro k
 induction k with
 |zero =>
  intro i b r j nl acc hk hi hnl
  obtain ⟨i, rfl⟩ : ∃ q, i = q + 1 := ⟨i - 1, by omega⟩
  rw [z14_s6]
  unfold progL
  cases r with
  |nil =>
   subst hnl
   rw [show decide (((List.length ([] : Rows) : Nat) : Int) > 0) = false from rfl, cond_false]
   rfl
  |cons t r =>
  have hlen : decide (((List.length (t :: r) : Nat) : Int) > 0) = true := by simp
  rw [hlen, cond_true, begins_p]
  simp only [obind_some, fail_p, List.isEmpty_cons, cond_false]
  cases hb : beg (t :: r) with
  |false =>
   obtain ⟨⟨a, e, r'⟩, he⟩ := ruleP_nb (j := j) hb
   simp only [cond_false, Bool.false_and, rule_p n hn, he, encP_error, obind_some, cond_true]
   rfl
  |true =>
   simp only [cond_true, Bool.true_and]
   have hl : (((acc.length : Nat) : Int) == 16) = (acc.length == 16) := len_eq acc 16
   have h16 : (acc.length == 16) = true := by simp; omega
   rw [hl, h16]
   rfl
 |succ k ih =>
  intro i b r j nl acc hk hi hnl
  obtain ⟨i, rfl⟩ : ∃ q, i = q + 1 := ⟨i - 1, by omega⟩
  rw [z14_s6]
  unfold progL
  cases r with
  |nil =>
   subst hnl
   rw [show decide (((List.length ([] : Rows) : Nat) : Int) > 0) = false from rfl, cond_false]
   rfl
  |cons t r =>
  have hlen : decide (((List.length (t :: r) : Nat) : Int) > 0) = true := by simp
  rw [hlen, cond_true, begins_p]
  simp only [obind_some, fail_p, List.isEmpty_cons, cond_false]
  cases hb : beg (t :: r) with
  |false =>
   obtain ⟨⟨a, e, r'⟩, he⟩ := ruleP_nb (j := j) hb
   simp only [cond_false, Bool.false_and, rule_p n hn, he, encP_error, obind_some, cond_true]
   rfl
  |true =>
   simp only [cond_true, Bool.true_and]
   have hl : (((acc.length : Nat) : Int) == 16) = (acc.length == 16) := len_eq acc 16
   rw [hl]
   cases h16 : acc.length == 16 with
   |true => rfl
   |false =>
    simp only [cond_false, rule_p n hn]
    rcases hr : ruleP j (t :: r) with ⟨x, e, r'⟩ | ⟨x, r1⟩
    ·rfl
    simp only [encP_ok, obind_some, cond_false]
    have h16' : acc.length ≠ 16 := by simpa using h16
    rw [if_pos (small_app (by omega) (by omega))]
    exact ih i b r1 j _ _ (by simp; omega) (by omega) (by simp)
end Go.Den
