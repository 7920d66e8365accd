import Derived.Test.YtefebdknnedioaaPA
set_option linter.unusedVariables false
set_option linter.unusedSimpArgs false
set_option linter.unusedSectionVars false
namespace Go.Den
open Go.Proofs
set_option maxRecDepth 10000
/-! the document's parser -/
abbrev RSt := ((Bool × Rows) × Int × Int × Int × Unit) × Unit
@[reducible] def stS (b : Bool) (r : Rows) (j e a : Int) : RSt := (((b, r), j, e, a, ()), ())
def stR {α : Type} (b : Bool) (j a : Int) : Res α → RSt
  | .ok (_, r) => stS b r j 0 a
  | .error (x, e, r) => stS b r j e x
def okv {α : Type} (d : α) : Res α → α
  | .ok (v, _) => v
  | .error _ => d
@[simp] theorem stR_ok {α : Type} (b : Bool) (j a : Int) (v : α) (r : Rows) : stR b j a (.ok (v, r)) = stS b r j 0 a := rfl
@[simp] theorem stR_error {α : Type} (b : Bool) (j a x e : Int) (r : Rows) : stR (α := α) b j a (.error (x, e, r)) = stS b r j e x := rfl
@[simp] theorem okv_ok {α : Type} (d v : α) (r : Rows) : okv d (.ok (v, r)) = v := rfl
@[simp] theorem okv_error {α : Type} (d : α) (e : Int × Int × Rows) : okv d (.error e) = d := rfl
theorem next_r (n : Nat) (b : Bool) (r : Rows) (j e a : Int) : ref08_Parser_next_v n b r j e a = some ((kd r, tx r, nm r, at_ j r, ()), stS b r j e a) := by
  rw [ref08_Parser_next_e]
  cases r with
  | nil => rfl
  | cons t r =>
    rw [show ((((t :: r).length : Nat) : Int) == 0) = false from by simp; omega, cond_false, if_pos (by simp)]; rfl
theorem ok_r (n : Nat) (b : Bool) (r : Rows) (j e a : Int) : ref08_Parser_ok_v n b r j e a = some (e == 0, stS b r j e a) := by rw [ref08_Parser_ok_e]
theorem take_r (n : Nat) (b : Bool) (r : Rows) (j e a : Int) (h : 1 ≤ ((r.length : Nat) : Int)) : ref08_Parser_take_v n b r j e a = some ((), stS b r.tail j e a) := by
  rw [ref08_Parser_take_e, if_pos h, if_pos (Int.le_refl _), drop_tail]
theorem begins_r (n : Nat) (b : Bool) (r : Rows) (j e a : Int) : ref08_Parser_begins_v n b r j e a = some (beg r, stS b r j e a) := by
  rw [ref08_Parser_begins_e, next_r]
  simp only [obind_some, kept_r]
  unfold beg
  cases h2 : kd r == 2 <;> cases h3 : kd r == 3 <;> cases h1 : kd r == 1 <;> cases kept (tx r) <;> cases h4 : kd r == 4 <;> first | rfl | (exfalso; simp at h1 h2 h3 h4; omega)
theorem fail_r (n : Nat) (c : Int) (b : Bool) (r : Rows) (j a : Int) : ref08_Parser_fail_v n c b r j 0 a = some ((), stS b r j c (at_ j r)) := by
  rw [ref08_Parser_fail_e, next_r]; rfl
theorem is_r (n : Nat) (s : ByteArray) (b : Bool) (r : Rows) (j e a : Int) : ref08_Parser_is_v n s b r j e a = some (isS s r, stS b r j e a) := by
  rw [ref08_Parser_is_e, next_r]
  simp only [obind_some, kept_r]
  unfold isS
  cases tx r == s <;> cases kd r == 5 <;> cases kd r == 1 <;> cases kept s <;> rfl
theorem must_r (n : Nat) (s : ByteArray) (b : Bool) (r : Rows) (j a : Int) : ref08_Parser_must_v n s b r j 0 a = some ((), stR b j a (mustP s j r)) := by
  rw [ref08_Parser_must_e, ok_r]
  simp only [obind_some, is_r]
  unfold mustP
  cases h : isS s r with
  | false => simp only [Bool.not_false, cond_true, fail_r]; rfl
  | true => simp only [Bool.not_true, cond_false, take_r n b r j 0 a (isS_ne h)]; rfl
theorem term_r (n : Nat) (b : Bool) (r : Rows) (j a : Int) : ref08_Parser_term_v n b r j 0 a = some (okv t0 (termP j r), stR b j a (termP j r)) := by
  rw [ref08_Parser_term_e, ok_r]
  simp only [obind_some, begins_r]
  unfold termP
  cases h : beg r with
  | false => simp only [Bool.not_false, cond_true, fail_r]; rfl
  | true =>
    simp only [Bool.not_true, cond_false, next_r, obind_some, take_r n b r j 0 a (beg_ne h)]
    unfold tval
    cases kd r == 2 <;> cases kd r == 3 <;> rfl
theorem word_r (n : Nat) (b : Bool) (r : Rows) (j a : Int) : ref08_Parser_word_v n b r j 0 a = some (okv (ByteArray.mk #[]) (wordP j r), stR b j a (wordP j r)) := by
  rw [ref08_Parser_word_e, ok_r]
  simp only [obind_some, next_r, kept_r]
  unfold wordP
  cases h : kd r == 1 with
  | false => simp only [bne, h, Bool.not_false, cond_true, fail_r]; rfl
  | true =>
    simp only [bne, h, Bool.not_true, cond_false, Bool.true_and]
    cases kept (tx r) with
    | true => simp only [cond_true, fail_r]; rfl
    | false => simp only [cond_false, take_r n b r j 0 a (word_ne h)]; rfl
/-! behind a fault -/
theorem must_x (n : Nat) (s : ByteArray) (b : Bool) (r : Rows) (j e a : Int) (he : (e == 0) = false) : ref08_Parser_must_v n s b r j e a = some ((), stS b r j e a) := by
  rw [ref08_Parser_must_e, ok_r, he]; rfl
theorem term_x (n : Nat) (b : Bool) (r : Rows) (j e a : Int) (he : (e == 0) = false) : ref08_Parser_term_v n b r j e a = some (t0, stS b r j e a) := by
  rw [ref08_Parser_term_e, ok_r, he]; rfl
theorem word_x (n : Nat) (b : Bool) (r : Rows) (j e a : Int) (he : (e == 0) = false) : ref08_Parser_word_v n b r j e a = some (ByteArray.mk #[], stS b r j e a) := by
  rw [ref08_Parser_word_e, ok_r, he]; rfl
theorem args_lx (n : Nat) (b0 : Bool) (r0 : Rows) (j0 e0 a0 : Int) (i : Nat) (b : Bool) (r : Rows) (j e a : Int) (nl : Bool) (acc : Rows) (hi : 0 < i) (he : (e == 0) = false) :
    ref08_Parser_args_l6 n b0 r0 j0 e0 a0 i b r j e a nl acc = some ((true, []), stS b r j e a) := by
  obtain ⟨i, rfl⟩ : ∃ q, i = q + 1 := ⟨i - 1, by omega⟩
  rw [ref08_Parser_args_s6, ok_r, he]; rfl
theorem args_x (n : Nat) (hn : 0 < n) (b : Bool) (r : Rows) (j e a : Int) (he : (e == 0) = false) : ref08_Parser_args_v n b r j e a = some ((true, []), stS b r j e a) := by
  rw [ref08_Parser_args_e, must_x _ _ _ _ _ _ _ he]
  simp only [obind_some, ok_r, he, cond_false]
  exact args_lx n b r j e a n b r j e a true [] hn he
theorem literal_x (n : Nat) (b : Bool) (r : Rows) (j e a : Int) (he : (e == 0) = false) : ref08_Parser_literal_v n b r j e a = some (l0, stS b r j e a) := by
  rw [ref08_Parser_literal_e, ok_r, he]; rfl
theorem rule_lx (n : Nat) (b0 : Bool) (r0' : Rows) (j0 e0 a0 : Int) (h : T4) (p : ByteArray) (al : Bool) (ar : Rows) (to : T4) (i : Nat) (b : Bool) (r : Rows) (j e a : Int) (nl : Bool) (acc : Rows) (hi : 0 < i) (he : (e == 0) = false) :
    ref08_Parser_rule_l10 n b0 r0' j0 e0 a0 i b r j e a h.1 h.2.1 h.2.2.1 h.2.2.2.1 p al ar to.1 to.2.1 to.2.2.1 to.2.2.2.1 nl acc = some ((h.1, h.2.1, h.2.2.1, h.2.2.2.1, p, (al, ar), to.1, to.2.1, to.2.2.1, to.2.2.2.1, (nl, acc), ()), stS b r j e a) := by
  obtain ⟨i, rfl⟩ : ∃ q, i = q + 1 := ⟨i - 1, by omega⟩
  rw [ref08_Parser_rule_s10, ok_r, he]; rfl
theorem rule_x (n : Nat) (hn : 0 < n) (b : Bool) (r : Rows) (j e a : Int) (he : (e == 0) = false) : ref08_Parser_rule_v n b r j e a = some (r0, stS b r j e a) := by
  rw [ref08_Parser_rule_e, term_x _ _ _ _ _ _ he]
  simp only [obind_some, must_x _ _ _ _ _ _ _ he, word_x _ _ _ _ _ _ he, args_x n hn _ _ _ _ _ he, ok_r, he, cond_false]
  exact rule_lx n b r j e a t0 (ByteArray.mk #[]) true [] t0 n b r j e a true [] hn he
/-! faults have numbers -/
def Bad {α : Type} (x : Res α) : Prop := ∀ y, x = .error y → (y.2.1 == 0) = false
theorem bad_term (j : Int) (r : Rows) : Bad (termP j r) := by
  intro y h; unfold termP at h; cases hb : beg r <;> rw [hb] at h <;> simp at h; subst h; rfl
theorem bad_must (s : ByteArray) (j : Int) (r : Rows) : Bad (mustP s j r) := by
  intro y h; unfold mustP at h; cases hb : isS s r <;> rw [hb] at h <;> simp at h; subst h; rfl
theorem bad_word (j : Int) (r : Rows) : Bad (wordP j r) := by
  intro y h; unfold wordP at h; cases hb : (kd r == 1 && !kept (tx r)) <;> rw [hb] at h <;> simp at h; subst h; rfl
theorem bad_bnd {α β : Type} {x : Res α} {f : α → Rows → Res β} (h1 : Bad x) (h2 : ∀ v r, Bad (f v r)) : Bad (bnd x f) := by
  intro y h
  rcases x with e | ⟨v, r⟩
  · simp at h; exact h1 y (by rw [h])
  · exact h2 v r y h
theorem bad_ok {α : Type} (x : α × Rows) : Bad (.ok x : Res α) := by intro y h; cases h
theorem bad_cond {α : Type} {c : Bool} {x y : Res α} (h1 : Bad x) (h2 : Bad y) : Bad (bif c then x else y) := by cases c; exact h2; exact h1
theorem bad_error {α : Type} {x e : Int} {r : Rows} (h : (e == 0) = false) : Bad (.error (x, e, r) : Res α) := by intro y hy; cases hy; exact h
theorem bad_argsL : ∀ (k : Nat) (j : Int) (r acc : Rows), Bad (argsL k j r acc)
  | 0, _, _, _ => bad_error rfl
  | k + 1, j, r, acc => bad_cond (bad_error rfl) (bad_bnd (bad_term _ _) fun t r => bad_cond (bad_ok _) (bad_bnd (bad_must _ _ _) fun _ r => bad_argsL k j r _))
theorem bad_args (j : Int) (r : Rows) : Bad (argsP j r) := bad_bnd (bad_must _ _ _) fun _ r => bad_cond (bad_ok _) (bad_argsL _ _ _ _)
theorem bad_litB (t : T4) (j : Int) (r : Rows) : Bad (litB t j r) := bad_bnd (bad_word _ _) fun p r => bad_bnd (bad_args _ _) fun a r => bad_cond (bad_bnd (bad_term _ _) fun _ _ => bad_ok _) (bad_ok _)
theorem bad_lit (j : Int) (r : Rows) : Bad (litP j r) := bad_cond (bad_bnd (bad_term _ _) fun t r => bad_bnd (bad_must _ _ _) fun _ r => bad_litB _ _ _) (bad_litB _ _ _)
theorem bad_bodyL : ∀ (k : Nat) (j : Int) (r acc : Rows), Bad (bodyL k j r acc)
  | 0, _, _, _ => bad_error rfl
  | k + 1, j, r, acc => bad_cond (bad_error rfl) (bad_bnd (bad_lit _ _) fun t r => bad_cond (bad_ok _) (bad_bnd (bad_must _ _ _) fun _ r => bad_bodyL k j r _))
theorem bad_rule (j : Int) (r : Rows) : Bad (ruleP j r) :=
  bad_bnd (bad_term _ _) fun h r => bad_bnd (bad_must _ _ _) fun _ r => bad_bnd (bad_word _ _) fun p r => bad_bnd (bad_args _ _) fun a r =>
    bad_cond (bad_bnd (bad_term _ _) fun t r => bad_bnd (bad_must _ _ _) fun _ r => bad_bnd (bad_bodyL _ _ _ _) fun _ _ => bad_ok _) (bad_bnd (bad_must _ _ _) fun _ r => bad_bnd (bad_bodyL _ _ _ _) fun _ _ => bad_ok _)

theorem args_lr (n : Nat) (b0 : Bool) (r0 : Rows) (j0 e0 a0 : Int) : ∀ (k i : Nat) (b : Bool) (r : Rows) (j a : Int) (nl : Bool) (acc : Rows), acc.length + k = 4 → k + 1 < i →
    ref08_Parser_args_l6 n b0 r0 j0 e0 a0 i b r j 0 a nl acc = some (okv (true, []) (bnd (argsL (k + 1) j r acc) fun a r => .ok ((a.isEmpty, a), r)), stR b j a (argsL (k + 1) j r acc)) := by
  intro k
  induction k with
  | zero =>
    intro i b r j a nl acc h hi
    obtain ⟨i, rfl⟩ : ∃ q, i = q + 1 := ⟨i - 1, by omega⟩
    rw [ref08_Parser_args_s6, ok_r]
    simp only [obind_some, begins_r, argsL, show ((0 : Int) == 0) = true from rfl, cond_true]
    have hl : (((acc.length : Nat) : Int) == 4) = true := by simp; omega
    have hl' : (acc.length == 4) = true := by simp; omega
    cases hb : beg r with
    | false =>
      simp only [cond_false, Bool.false_and, term_r, termP_f hb, okv_error, stR_error, obind_some, bnd_error, ok_r, show ((80 : Int) == 0) = false from rfl]
      rw [if_pos (small_app (by omega) (by omega))]
      simp only [must_x _ _ _ _ _ 80 _ rfl, obind_some]
      exact args_lx _ _ _ _ _ _ _ _ _ _ _ _ _ _ (by omega) rfl
    | true =>
      simp only [hl, hl', Bool.and_self, cond_true, fail_r, obind_some, term_x _ _ _ _ 81 _ rfl, ok_r, show ((81 : Int) == 0) = false from rfl, cond_false, bnd_error, okv_error, stR_error]
      rw [if_pos (small_app (by omega) (by omega))]
      simp only [must_x _ _ _ _ _ 81 _ rfl, obind_some]
      exact args_lx _ _ _ _ _ _ _ _ _ _ _ _ _ _ (by omega) rfl
  | succ k ih =>
    intro i b r j a nl acc h hi
    obtain ⟨i, rfl⟩ : ∃ q, i = q + 1 := ⟨i - 1, by omega⟩
    rw [ref08_Parser_args_s6, ok_r]
    simp only [obind_some, begins_r, show ((0 : Int) == 0) = true from rfl, cond_true]
    unfold argsL
    have hl : (((acc.length : Nat) : Int) == 4) = false := by simp; omega
    have hl' : (acc.length == 4) = false := by simp; omega
    cases hb : beg r with
    | false =>
      simp only [cond_false, Bool.false_and, term_r, termP_f hb, okv_error, stR_error, obind_some, bnd_error, ok_r, show ((80 : Int) == 0) = false from rfl]
      rw [if_pos (small_app (by omega) (by omega))]
      simp only [must_x _ _ _ _ _ 80 _ rfl, obind_some]
      exact args_lx _ _ _ _ _ _ _ _ _ _ _ _ _ _ (by omega) rfl
    | true =>
      simp only [hl, hl', Bool.and_false, cond_true, cond_false, term_r, termP_t hb, okv_ok, stR_ok, obind_some, bnd_ok, ok_r, show ((0 : Int) == 0) = true from rfl, is_r]
      rw [if_pos (small_app (by omega) (by omega))]
      cases hc : isS sC r.tail with
      | true =>
        simp only [cond_true, bnd_ok, okv_ok, stR_ok, app_isEmpty, List.isEmpty_cons, Bool.and_false, take_r _ _ _ _ _ _ (isS_ne hc), obind_some]
      | false =>
        simp only [cond_false, must_r]
        cases hm : isS sComma r.tail with
        | false =>
          rw [mustP_f hm]
          simp only [obind_some, stR_error, bnd_error, okv_error]
          exact args_lx _ _ _ _ _ _ _ _ _ _ _ _ _ _ (by omega) rfl
        | true =>
          rw [mustP_t hm]
          simp only [obind_some, stR_ok, bnd_ok]
          exact ih i b _ j _ _ _ (by simp; omega) (by omega)
theorem stR_bnd {α β : Type} (b : Bool) (j a : Int) (x : Res α) (g : α → β) : stR b j a (bnd x fun v r => .ok (g v, r)) = stR b j a x := by rcases x with ⟨x, e, r⟩ | ⟨v, r⟩ <;> rfl
theorem args_r (n : Nat) (hn : 6 ≤ n) (b : Bool) (r : Rows) (j a : Int) : ref08_Parser_args_v n b r j 0 a = some (okv (true, []) (bnd (argsP j r) fun a r => .ok ((a.isEmpty, a), r)), stR b j a (argsP j r)) := by
  rw [ref08_Parser_args_e, must_r]
  unfold argsP
  cases hm : isS sO r with
  | false =>
    rw [mustP_f hm]
    simp only [obind_some, stR_error, bnd_error, okv_error, ok_r, show ((80 : Int) == 0) = false from rfl, cond_false]
    exact args_lx _ _ _ _ _ _ _ _ _ _ _ _ _ _ (by omega) rfl
  | true =>
    rw [mustP_t hm]
    simp only [obind_some, stR_ok, bnd_ok, ok_r, show ((0 : Int) == 0) = true from rfl, cond_true, is_r]
    cases hc : isS sC r.tail with
    | true => simp only [cond_true, take_r _ _ _ _ _ _ (isS_ne hc), obind_some]; rfl
    | false =>
      simp only [cond_false]
      exact args_lr n b r j 0 a 4 n b _ j _ true [] rfl (by omega)
end Go.Den
namespace Go.Den
open Go.Proofs
set_option maxRecDepth 10000
def Says {α : Type} (o : Option (α × RSt)) (b : Bool) (j a : Int) (x : Res α) : Prop := ∃ v, o = some (v, stR b j a x) ∧ ∀ y r, x = .ok (y, r) → v = y
theorem litB_r (n : Nat) (hn : 6 ≤ n) (t : T4) (b : Bool) (r : Rows) (j a : Int) : Says (
  obind (ref08_Parser_word_v n b r j 0 a) fun y8 =>
  obind (ref08_Parser_args_v n y8.snd.fst.fst.fst y8.snd.fst.fst.snd y8.snd.fst.snd.fst y8.snd.fst.snd.snd.fst y8.snd.fst.snd.snd.snd.fst) fun y9 =>
  obind (ref08_Parser_ok_v n y9.snd.fst.fst.fst y9.snd.fst.fst.snd y9.snd.fst.snd.fst y9.snd.fst.snd.snd.fst y9.snd.fst.snd.snd.snd.fst) fun y10 =>
  bif y10.fst then
    obind (ref08_Parser_is_v n (ByteArray.mk #[97, 116]) y10.snd.fst.fst.fst y10.snd.fst.fst.snd y10.snd.fst.snd.fst y10.snd.fst.snd.snd.fst y10.snd.fst.snd.snd.snd.fst) fun y11 =>
    bif y11.fst then
      obind (ref08_Parser_take_v n y11.snd.fst.fst.fst y11.snd.fst.fst.snd y11.snd.fst.snd.fst y11.snd.fst.snd.snd.fst y11.snd.fst.snd.snd.snd.fst) fun y12 =>
      obind (ref08_Parser_term_v n y12.snd.fst.fst.fst y12.snd.fst.fst.snd y12.snd.fst.snd.fst y12.snd.fst.snd.snd.fst y12.snd.fst.snd.snd.snd.fst) fun y13 =>
      some ((t.fst, (t.snd.fst, (t.snd.snd.fst, (t.snd.snd.snd.fst, (y8.fst, ((y9.fst.fst, y9.fst.snd), (y13.fst.fst, (y13.fst.snd.fst, (y13.fst.snd.snd.fst, (y13.fst.snd.snd.snd.fst, ())))))))))), (((y13.snd.fst.fst.fst, y13.snd.fst.fst.snd), (y13.snd.fst.snd.fst, (y13.snd.fst.snd.snd.fst, (y13.snd.fst.snd.snd.snd.fst, ())))), ()))
    else some ((t.fst, (t.snd.fst, (t.snd.snd.fst, (t.snd.snd.snd.fst, (y8.fst, ((y9.fst.fst, y9.fst.snd), (ByteArray.mk #[], (false, (0, (ByteArray.mk #[], ())))))))))), (((y11.snd.fst.fst.fst, y11.snd.fst.fst.snd), (y11.snd.fst.snd.fst, (y11.snd.fst.snd.snd.fst, (y11.snd.fst.snd.snd.snd.fst, ())))), ()))
  else some ((t.fst, (t.snd.fst, (t.snd.snd.fst, (t.snd.snd.snd.fst, (y8.fst, ((y9.fst.fst, y9.fst.snd), (ByteArray.mk #[], (false, (0, (ByteArray.mk #[], ())))))))))), (((y10.snd.fst.fst.fst, y10.snd.fst.fst.snd), (y10.snd.fst.snd.fst, (y10.snd.fst.snd.snd.fst, (y10.snd.fst.snd.snd.snd.fst, ())))), ()))) b j a (litB t j r) := by
  rw [word_r]
  unfold litB
  rcases hw : wordP j r with ⟨x, e, r'⟩ | ⟨p, r1⟩
  · have he := bad_word j r _ hw
    simp only at he
    simp only [okv_error, stR_error, obind_some, args_x n (by omega) _ _ _ _ _ he, ok_r, he, cond_false, bnd_error]
    exact ⟨_, rfl, fun y r h => by cases h⟩
  simp only [okv_ok, stR_ok, obind_some, bnd_ok, args_r n hn]
  rcases ha : argsP j r1 with ⟨x, e, r'⟩ | ⟨al, r2⟩
  · have he := bad_args j r1 _ ha
    simp only at he
    simp only [bnd_error, okv_error, stR_error, obind_some, ok_r, he, cond_false]
    exact ⟨_, rfl, fun y r h => by cases h⟩
  simp only [bnd_ok, okv_ok, stR_ok, obind_some, ok_r, show ((0 : Int) == 0) = true from rfl, cond_true, is_r]
  cases hc : isS sAt r2 with
  | false => exact ⟨_, rfl, fun y r h => by cases h; rfl⟩
  | true =>
    simp only [cond_true, take_r _ _ _ _ _ _ (isS_ne hc), obind_some, term_r]
    rcases termP j r2.tail with ⟨x, e, r'⟩ | ⟨p, r3⟩
    · exact ⟨_, rfl, fun y r h => by cases h⟩
    · exact ⟨_, rfl, fun y r h => by cases h; rfl⟩
theorem litA_r (n : Nat) (hn : 6 ≤ n) (b : Bool) (r : Rows) (j a : Int) : Says (
  obind (ref08_Parser_term_v n b r j 0 a) fun y6 =>
  obind (ref08_Parser_must_v n (ByteArray.mk #[115, 97, 121, 115]) y6.snd.fst.fst.fst y6.snd.fst.fst.snd y6.snd.fst.snd.fst y6.snd.fst.snd.snd.fst y6.snd.fst.snd.snd.snd.fst) fun y7 =>
  obind (ref08_Parser_word_v n y7.snd.fst.fst.fst y7.snd.fst.fst.snd y7.snd.fst.snd.fst y7.snd.fst.snd.snd.fst y7.snd.fst.snd.snd.snd.fst) fun y8 =>
  obind (ref08_Parser_args_v n y8.snd.fst.fst.fst y8.snd.fst.fst.snd y8.snd.fst.snd.fst y8.snd.fst.snd.snd.fst y8.snd.fst.snd.snd.snd.fst) fun y9 =>
  obind (ref08_Parser_ok_v n y9.snd.fst.fst.fst y9.snd.fst.fst.snd y9.snd.fst.snd.fst y9.snd.fst.snd.snd.fst y9.snd.fst.snd.snd.snd.fst) fun y10 =>
  bif y10.fst then
    obind (ref08_Parser_is_v n (ByteArray.mk #[97, 116]) y10.snd.fst.fst.fst y10.snd.fst.fst.snd y10.snd.fst.snd.fst y10.snd.fst.snd.snd.fst y10.snd.fst.snd.snd.snd.fst) fun y11 =>
    bif y11.fst then
      obind (ref08_Parser_take_v n y11.snd.fst.fst.fst y11.snd.fst.fst.snd y11.snd.fst.snd.fst y11.snd.fst.snd.snd.fst y11.snd.fst.snd.snd.snd.fst) fun y12 =>
      obind (ref08_Parser_term_v n y12.snd.fst.fst.fst y12.snd.fst.fst.snd y12.snd.fst.snd.fst y12.snd.fst.snd.snd.fst y12.snd.fst.snd.snd.snd.fst) fun y13 =>
      some ((y6.fst.fst, (y6.fst.snd.fst, (y6.fst.snd.snd.fst, (y6.fst.snd.snd.snd.fst, (y8.fst, ((y9.fst.fst, y9.fst.snd), (y13.fst.fst, (y13.fst.snd.fst, (y13.fst.snd.snd.fst, (y13.fst.snd.snd.snd.fst, ())))))))))), (((y13.snd.fst.fst.fst, y13.snd.fst.fst.snd), (y13.snd.fst.snd.fst, (y13.snd.fst.snd.snd.fst, (y13.snd.fst.snd.snd.snd.fst, ())))), ()))
    else some ((y6.fst.fst, (y6.fst.snd.fst, (y6.fst.snd.snd.fst, (y6.fst.snd.snd.snd.fst, (y8.fst, ((y9.fst.fst, y9.fst.snd), (ByteArray.mk #[], (false, (0, (ByteArray.mk #[], ())))))))))), (((y11.snd.fst.fst.fst, y11.snd.fst.fst.snd), (y11.snd.fst.snd.fst, (y11.snd.fst.snd.snd.fst, (y11.snd.fst.snd.snd.snd.fst, ())))), ()))
  else some ((y6.fst.fst, (y6.fst.snd.fst, (y6.fst.snd.snd.fst, (y6.fst.snd.snd.snd.fst, (y8.fst, ((y9.fst.fst, y9.fst.snd), (ByteArray.mk #[], (false, (0, (ByteArray.mk #[], ())))))))))), (((y10.snd.fst.fst.fst, y10.snd.fst.fst.snd), (y10.snd.fst.snd.fst, (y10.snd.fst.snd.snd.fst, (y10.snd.fst.snd.snd.snd.fst, ())))), ()))) b j a (bnd (termP j r) fun t r => bnd (mustP sSays j r) fun _ r => litB t j r) := by
  rw [term_r]
  rcases ht : termP j r with ⟨x, e, r'⟩ | ⟨t, r1⟩
  · have he := bad_term j r _ ht
    simp only at he
    simp only [okv_error, stR_error, obind_some, must_x _ _ _ _ _ _ _ he, word_x _ _ _ _ _ _ he, args_x n (by omega) _ _ _ _ _ he, ok_r, he, cond_false, bnd_error]
    exact ⟨_, rfl, fun y r h => by cases h⟩
  simp only [okv_ok, stR_ok, obind_some, bnd_ok, must_r]
  rcases hm : mustP sSays j r1 with ⟨x, e, r'⟩ | ⟨_, r2⟩
  · have he := bad_must sSays j r1 _ hm
    simp only at he
    simp only [stR_error, obind_some, word_x _ _ _ _ _ _ he, args_x n (by omega) _ _ _ _ _ he, ok_r, he, cond_false, bnd_error]
    exact ⟨_, rfl, fun y r h => by cases h⟩
  simp only [stR_ok, obind_some, bnd_ok]
  exact litB_r n hn t b r2 j a
theorem litB0_r (n : Nat) (hn : 6 ≤ n) (b : Bool) (r : Rows) (j a : Int) : Says (
  obind (ref08_Parser_word_v n b r j 0 a) fun y53 =>
  obind (ref08_Parser_args_v n y53.snd.fst.fst.fst y53.snd.fst.fst.snd y53.snd.fst.snd.fst y53.snd.fst.snd.snd.fst y53.snd.fst.snd.snd.snd.fst) fun y54 =>
  obind (ref08_Parser_ok_v n y54.snd.fst.fst.fst y54.snd.fst.fst.snd y54.snd.fst.snd.fst y54.snd.fst.snd.snd.fst y54.snd.fst.snd.snd.snd.fst) fun y55 =>
  bif y55.fst then
    obind (ref08_Parser_is_v n (ByteArray.mk #[97, 116]) y55.snd.fst.fst.fst y55.snd.fst.fst.snd y55.snd.fst.snd.fst y55.snd.fst.snd.snd.fst y55.snd.fst.snd.snd.snd.fst) fun y56 =>
    bif y56.fst then
      obind (ref08_Parser_take_v n y56.snd.fst.fst.fst y56.snd.fst.fst.snd y56.snd.fst.snd.fst y56.snd.fst.snd.snd.fst y56.snd.fst.snd.snd.snd.fst) fun y57 =>
      obind (ref08_Parser_term_v n y57.snd.fst.fst.fst y57.snd.fst.fst.snd y57.snd.fst.snd.fst y57.snd.fst.snd.snd.fst y57.snd.fst.snd.snd.snd.fst) fun y58 =>
      some ((ByteArray.mk #[], (false, (0, (ByteArray.mk #[], (y53.fst, ((y54.fst.fst, y54.fst.snd), (y58.fst.fst, (y58.fst.snd.fst, (y58.fst.snd.snd.fst, (y58.fst.snd.snd.snd.fst, ())))))))))), (((y58.snd.fst.fst.fst, y58.snd.fst.fst.snd), (y58.snd.fst.snd.fst, (y58.snd.fst.snd.snd.fst, (y58.snd.fst.snd.snd.snd.fst, ())))), ()))
    else some ((ByteArray.mk #[], (false, (0, (ByteArray.mk #[], (y53.fst, ((y54.fst.fst, y54.fst.snd), (ByteArray.mk #[], (false, (0, (ByteArray.mk #[], ())))))))))), (((y56.snd.fst.fst.fst, y56.snd.fst.fst.snd), (y56.snd.fst.snd.fst, (y56.snd.fst.snd.snd.fst, (y56.snd.fst.snd.snd.snd.fst, ())))), ()))
  else some ((ByteArray.mk #[], (false, (0, (ByteArray.mk #[], (y53.fst, ((y54.fst.fst, y54.fst.snd), (ByteArray.mk #[], (false, (0, (ByteArray.mk #[], ())))))))))), (((y55.snd.fst.fst.fst, y55.snd.fst.fst.snd), (y55.snd.fst.snd.fst, (y55.snd.fst.snd.snd.fst, (y55.snd.fst.snd.snd.snd.fst, ())))), ()))) b j a (litB t0 j r) := litB_r n hn t0 b r j a
theorem literal_r (n : Nat) (hn : 6 ≤ n) (b : Bool) (r : Rows) (j a : Int) : Says (ref08_Parser_literal_v n b r j 0 a) b j a (litP j r) := by
  have hA := litA_r n hn b r j a
  have hB := litB0_r n hn b r j a
  rw [ref08_Parser_literal_e, ok_r]
  simp only [obind_some, show ((0 : Int) == 0) = true from rfl, Bool.not_true, cond_false, next_r]
  unfold litP said
  by_cases h1 : ((r.length : Nat) : Int) > 1
  · rw [decide_eq_true h1, if_pos h1, if_pos h1]
    simp only [cond_true, Bool.true_and, bne]
    cases (Row.I (List.getD r 1 []) 0 == 1) <;> cases (Row.S (List.getD r 1 []) 1 == sSays) <;> cases (kd r == 1) <;>
      simp only [Bool.not_true, Bool.not_false, cond_true, cond_false, Bool.and_true, Bool.and_false, Bool.or_true, Bool.or_false, Bool.true_or, Bool.false_or] <;> first | (with_reducible exact hA) | (with_reducible exact hB)
  · rw [decide_eq_false h1]
    simp only [cond_false, Bool.false_and, bne]
    cases (kd r == 1) <;> simp only [Bool.not_true, Bool.not_false, cond_true, cond_false, Bool.and_true, Bool.and_false, Bool.or_true, Bool.or_false, Bool.true_or, Bool.false_or] <;> first | (with_reducible exact hA) | (with_reducible exact hB)
theorem body_lr (n : Nat) (hn : 6 ≤ n) (b0 : Bool) (r0' : Rows) (j0 e0 a0 : Int) (h : T4) (p : ByteArray) (al : Bool) (ar : Rows) (to : T4) : ∀ (k i : Nat) (b : Bool) (r : Rows) (j a : Int) (nl : Bool) (acc : Rows), acc.length + k = 4 → k + 1 < i →
    Says (ref08_Parser_rule_l10 n b0 r0' j0 e0 a0 i b r j 0 a h.1 h.2.1 h.2.2.1 h.2.2.2.1 p al ar to.1 to.2.1 to.2.2.1 to.2.2.2.1 nl acc) b j a (bnd (bodyL (k + 1) j r acc) fun bd r => .ok ((h.1, h.2.1, h.2.2.1, h.2.2.2.1, p, (al, ar), to.1, to.2.1, to.2.2.1, to.2.2.2.1, (bd.isEmpty, bd), ()), r)) := by
  intro k
  induction k with
  | zero =>
    intro i b r j a nl acc hk hi
    obtain ⟨i, rfl⟩ : ∃ q, i = q + 1 := ⟨i - 1, by omega⟩
    rw [ref08_Parser_rule_s10, ok_r]
    simp only [obind_some, begins_r, bodyL, show ((0 : Int) == 0) = true from rfl, cond_true]
    have hl : (((acc.length : Nat) : Int) == 4) = true := by simp; omega
    have hl' : (acc.length == 4) = true := by simp; omega
    cases hb : beg r with
    | false =>
      obtain ⟨⟨x, e, r'⟩, hlit⟩ := litP_nb (j := j) hb
      have he := bad_lit j r _ hlit
      simp only at he
      obtain ⟨v, hv, _⟩ := literal_r n hn b r j a
      simp only [cond_false, Bool.false_and, hv, hlit, stR_error, obind_some, bnd_error, ok_r, he]
      rw [if_pos (small_app (by omega) (by omega))]
      simp only [must_x _ _ _ _ _ e _ he, obind_some]
      rw [rule_lx _ _ _ _ _ _ _ _ _ _ _ _ _ _ _ _ _ _ _ (by omega) he]
      exact ⟨_, rfl, fun y r h => by cases h⟩
    | true =>
      simp only [hl, hl', Bool.and_self, cond_true, fail_r, obind_some, literal_x _ _ _ _ 81 _ rfl, ok_r, show ((81 : Int) == 0) = false from rfl, cond_false, bnd_error]
      rw [if_pos (small_app (by omega) (by omega))]
      simp only [must_x _ _ _ _ _ 81 _ rfl, obind_some]
      rw [rule_lx _ _ _ _ _ _ _ _ _ _ _ _ _ _ _ _ _ _ _ (by omega) rfl]
      exact ⟨_, rfl, fun y r h => by cases h⟩
  | succ k ih =>
    intro i b r j a nl acc hk hi
    obtain ⟨i, rfl⟩ : ∃ q, i = q + 1 := ⟨i - 1, by omega⟩
    rw [ref08_Parser_rule_s10, ok_r]
    simp only [obind_some, begins_r, show ((0 : Int) == 0) = true from rfl, cond_true]
    unfold bodyL
    have hl : (((acc.length : Nat) : Int) == 4) = false := by simp; omega
    have hl' : (acc.length == 4) = false := by simp; omega
    obtain ⟨v, hv, hvx⟩ := literal_r n hn b r j a
    cases hb : beg r
    all_goals
      simp only [hl, hl', Bool.and_false, Bool.false_and, cond_true, cond_false, hv, obind_some]
      rcases hlit : litP j r with ⟨x, e, r'⟩ | ⟨x, r1⟩
      · have he := bad_lit j r _ hlit
        simp only at he
        simp only [stR_error, bnd_error, ok_r, he, cond_false, obind_some]
        rw [if_pos (small_app (by omega) (by omega))]
        simp only [must_x _ _ _ _ _ e _ he, obind_some]
        rw [rule_lx _ _ _ _ _ _ _ _ _ _ _ _ _ _ _ _ _ _ _ (by omega) he]
        exact ⟨_, rfl, fun y r h => by cases h⟩
      obtain rfl := hvx x r1 hlit
      simp only [stR_ok, bnd_ok, ok_r, show ((0 : Int) == 0) = true from rfl, cond_true, is_r, obind_some]
      rw [if_pos (small_app (by omega) (by omega))]
      cases hc : isS sDot r1 with
      | true =>
        simp only [cond_true, take_r _ _ _ _ _ _ (isS_ne hc), obind_some, bnd_ok]
        exact ⟨_, rfl, fun y r h => by cases h; simp⟩
      | false =>
        simp only [cond_false, must_r]
        cases hm : isS sComma r1 with
        | false =>
          rw [mustP_f hm]
          simp only [obind_some, stR_error, bnd_error]
          rw [rule_lx _ _ _ _ _ _ _ _ _ _ _ _ _ _ _ _ _ _ _ (by omega) rfl]
          exact ⟨_, rfl, fun y r h => by cases h⟩
        | true =>
          rw [mustP_t hm]
          simp only [obind_some, stR_ok, bnd_ok]
          exact ih i b _ j _ _ _ (by simp; omega) (by omega)
theorem rule_r (n : Nat) (hn : 6 ≤ n) (b : Bool) (r : Rows) (j a : Int) : Says (ref08_Parser_rule_v n b r j 0 a) b j a (ruleP j r) := by
  rw [ref08_Parser_rule_e, term_r]
  unfold ruleP
  rcases h0 : termP j r with ⟨x, e, r'⟩ | ⟨h, r1⟩
  · have he := bad_term j r _ h0
    simp only at he
    simp only [okv_error, stR_error, obind_some, must_x _ _ _ _ _ _ _ he, word_x _ _ _ _ _ _ he, args_x n (by omega) _ _ _ _ _ he, ok_r, he, cond_false, bnd_error]
    have := rule_lx n b r j 0 a t0 (ByteArray.mk #[]) true [] t0 n b r' j e x true [] (by omega) he
    exact ⟨_, this, fun y r h => by cases h⟩
  simp only [okv_ok, stR_ok, obind_some, bnd_ok, must_r]
  rcases h1 : mustP sColon j r1 with ⟨x, e, r'⟩ | ⟨_, r2⟩
  · have he := bad_must sColon j r1 _ h1
    simp only at he
    simp only [okv_error, stR_error, obind_some, must_x _ _ _ _ _ _ _ he, word_x _ _ _ _ _ _ he, args_x n (by omega) _ _ _ _ _ he, ok_r, he, cond_false, bnd_error]
    have := rule_lx n b r j 0 a h (ByteArray.mk #[]) true [] t0 n b r' j e x true [] (by omega) he
    exact ⟨_, this, fun y r h => by cases h⟩
  simp only [okv_ok, stR_ok, obind_some, bnd_ok, word_r]
  rcases h2 : wordP j r2 with ⟨x, e, r'⟩ | ⟨p, r3⟩
  · have he := bad_word j r2 _ h2
    simp only at he
    simp only [okv_error, stR_error, obind_some, must_x _ _ _ _ _ _ _ he, word_x _ _ _ _ _ _ he, args_x n (by omega) _ _ _ _ _ he, ok_r, he, cond_false, bnd_error]
    have := rule_lx n b r j 0 a h (ByteArray.mk #[]) true [] t0 n b r' j e x true [] (by omega) he
    exact ⟨_, this, fun y r h => by cases h⟩
  simp only [okv_ok, stR_ok, obind_some, bnd_ok, args_r n hn]
  rcases h3 : argsP j r3 with ⟨x, e, r'⟩ | ⟨al, r4⟩
  · have he := bad_args j r3 _ h3
    simp only at he
    simp only [okv_error, stR_error, obind_some, must_x _ _ _ _ _ _ _ he, ok_r, he, cond_false, bnd_error]
    have := rule_lx n b r j 0 a h p true [] t0 n b r' j e x true [] (by omega) he
    exact ⟨_, this, fun y r h => by cases h⟩
  simp only [okv_ok, stR_ok, obind_some, bnd_ok, ok_r, show ((0 : Int) == 0) = true from rfl, cond_true, is_r]
  cases hc : isS sTo r4 with
  | false =>
    simp only [cond_false, must_r]
    unfold ruleB
    rcases h4 : mustP sIf j r4 with ⟨x, e, r'⟩ | ⟨_, r5⟩
    · have he := bad_must sIf j r4 _ h4
      simp only at he
      simp only [stR_error, obind_some, bnd_error]
      have := rule_lx n b r j 0 a h p al.isEmpty al t0 n b r' j e x true [] (by omega) he
      exact ⟨_, this, fun y r h => by cases h⟩
    simp only [stR_ok, obind_some, bnd_ok]
    exact body_lr n hn b r j 0 a h p al.isEmpty al t0 4 n b r5 j _ true [] rfl (by omega)
  | true =>
    simp only [cond_true, take_r _ _ _ _ _ _ (isS_ne hc), obind_some, term_r]
    rcases h5 : termP j r4.tail with ⟨x, e, r'⟩ | ⟨t, r5⟩
    · have he := bad_term j r4.tail _ h5
      simp only at he
      simp only [okv_error, stR_error, obind_some, must_x _ _ _ _ _ _ _ he, bnd_error]
      have := rule_lx n b r j 0 a h p al.isEmpty al t0 n b r' j e x true [] (by omega) he
      exact ⟨_, this, fun y r h => by cases h⟩
    simp only [okv_ok, stR_ok, obind_some, bnd_ok, must_r]
    unfold ruleB
    rcases h4 : mustP sIf j r5 with ⟨x, e, r'⟩ | ⟨_, r6⟩
    · have he := bad_must sIf j r5 _ h4
      simp only at he
      simp only [stR_error, obind_some, bnd_error]
      have := rule_lx n b r j 0 a h p al.isEmpty al t n b r' j e x true [] (by omega) he
      exact ⟨_, this, fun y r h => by cases h⟩
    simp only [stR_ok, obind_some, bnd_ok]
    exact body_lr n hn b r j 0 a h p al.isEmpty al t 4 n b r6 j _ true [] rfl (by omega)
theorem prog_lx (n : Nat) (s : ByteArray) (i : Nat) (b : Bool) (r : Rows) (nl : Bool) (acc : Rows) (j e a : Int) (hi : 0 < i) (he : (e == 0) = false) : ref08_Program_l6 n s i b r nl acc j e a = some (encG (.error (a, e))) := by
  obtain ⟨i, rfl⟩ : ∃ q, i = q + 1 := ⟨i - 1, by omega⟩
  rw [ref08_Program_s6, ok_r, he]
  simp only [obind_some, cond_false, ok_r, he, Bool.not_false, cond_true]
  rfl
theorem prog_lr (n : Nat) (hn : 6 ≤ n) (s : ByteArray) : ∀ (k i : Nat) (b : Bool) (r : Rows) (nl : Bool) (acc : Rows) (j a : Int), acc.length + k = 16 → k + 1 < i → nl = acc.isEmpty →
    ref08_Program_l6 n s i b r nl acc j 0 a = some (encG (progL (k + 1) j r acc)) := by
  intro k
  induction k with
  | zero =>
    intro i b r nl acc j a hk hi hnl
    obtain ⟨i, rfl⟩ : ∃ q, i = q + 1 := ⟨i - 1, by omega⟩
    rw [ref08_Program_s6, ok_r]
    unfold progL
    simp only [obind_some, show ((0 : Int) == 0) = true from rfl, cond_true]
    cases r with
    | nil =>
      subst hnl
      rw [show decide (((List.length ([] : Rows) : Nat) : Int) > 0) = false from rfl, cond_false]
      simp only [ok_r, obind_some]
      rfl
    | cons t r =>
    have hlen : decide (((List.length (t :: r) : Nat) : Int) > 0) = true := by simp
    rw [hlen, cond_true, begins_r]
    simp only [obind_some, List.isEmpty_cons, cond_false]
    have hl : (((acc.length : Nat) : Int) == 16) = (acc.length == 16) := len_eq acc 16
    cases hb : beg (t :: r) with
    | false =>
      obtain ⟨⟨x, e, r'⟩, hr⟩ := ruleP_nb (j := j) hb
      have he := bad_rule j (t :: r) _ hr
      simp only at he
      obtain ⟨v, hv, _⟩ := rule_r n hn b (t :: r) j a
      simp only [cond_false, Bool.false_and, hv, hr, stR_error, obind_some]
      rw [if_pos (small_app (by omega) (by omega))]
      exact prog_lx _ _ _ _ _ _ _ _ _ _ (by omega) he
    | true =>
      have h16 : (acc.length == 16) = true := by simp; omega
      simp only [cond_true, Bool.true_and, hl, h16, fail_r, obind_some, rule_x n (by omega) _ _ _ 81 _ rfl]
      rw [if_pos (small_app (by omega) (by omega))]
      exact prog_lx _ _ _ _ _ _ _ _ _ _ (by omega) rfl
  | succ k ih =>
    intro i b r nl acc j a hk hi hnl
    obtain ⟨i, rfl⟩ : ∃ q, i = q + 1 := ⟨i - 1, by omega⟩
    rw [ref08_Program_s6, ok_r]
    unfold progL
    simp only [obind_some, show ((0 : Int) == 0) = true from rfl, cond_true]
    cases r with
    | nil =>
      subst hnl
      rw [show decide (((List.length ([] : Rows) : Nat) : Int) > 0) = false from rfl, cond_false]
      simp only [ok_r, obind_some]
      rfl
    | cons t r =>
    have hlen : decide (((List.length (t :: r) : Nat) : Int) > 0) = true := by simp
    rw [hlen, cond_true, begins_r]
    simp only [obind_some, List.isEmpty_cons, cond_false]
    have hl : (((acc.length : Nat) : Int) == 16) = false := by simp; omega
    have hl' : (acc.length == 16) = false := by simp; omega
    obtain ⟨v, hv, hvx⟩ := rule_r n hn b (t :: r) j a
    cases hb : beg (t :: r)
    all_goals
      simp only [hl, hl', Bool.and_false, Bool.false_and, cond_true, cond_false, hv, obind_some]
      rcases hr : ruleP j (t :: r) with ⟨x, e, r'⟩ | ⟨x, r1⟩
      · have he := bad_rule j (t :: r) _ hr
        simp only at he
        simp only [stR_error]
        rw [if_pos (small_app (by omega) (by omega))]
        exact prog_lx _ _ _ _ _ _ _ _ _ _ (by omega) he
      obtain rfl := hvx x r1 hr
      simp only [stR_ok]
      rw [if_pos (small_app (by omega) (by omega))]
      exact ih i b r1 _ _ j _ (by simp; omega) (by omega) (by simp)
/-! both -/
theorem program_p (n : Nat) (hn : 20 ≤ n) {s : ByteArray} {nl : Bool} {tk : Rows} {at' e : Int} (h : lex_Tokens_v n s = some (((nl, tk), at', e, ()), ())) :
    parse_Program_v n s = some (encG (bif e != 0 then .error (at', e) else progP s.size tk)) := by
  rw [parse_Program_e, h]
  simp only [obind_some]
  cases he : (e != 0) with
  | true => rfl
  | false =>
    simp only [cond_false]
    exact prog_l n (by omega) s _ _ 16 n nl tk _ true [] rfl (by omega) rfl
theorem program_r (n : Nat) (hn : 20 ≤ n) {s : ByteArray} {nl : Bool} {tk : Rows} {at' e : Int} (h : ref07_Tokens_v n s = some (((nl, tk), at', e, ()), ())) :
    ref08_Program_v n s = some (encG (bif e != 0 then .error (at', e) else progP s.size tk)) := by
  rw [ref08_Program_e, h]
  simp only [obind_some]
  cases he : (e != 0) with
  | true => rfl
  | false =>
    simp only [cond_false]
    exact prog_lr n (by omega) s 16 n nl tk true [] _ 0 rfl (by omega) rfl
end Go.Den
