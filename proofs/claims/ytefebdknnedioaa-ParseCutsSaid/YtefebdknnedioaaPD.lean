import Derived.Test.YtefebdknnedioaaPC
set_option linter.unusedVariables false
set_option linter.unusedSimpArgs false
set_option linter.unusedSectionVars false
/- The parser on tokens that are alike, with others behind them. -/
namespace Go.Den
open Go.Proofs
set_option maxRecDepth 10000
def sameT (a b : Row) : Prop := Row.I a 0 = Row.I b 0 ∧ Row.S a 1 = Row.S b 1 ∧ Row.I a 2 = Row.I b 2
inductive Sim : Rows → Rows → Prop
  | nil : Sim [] []
  | cons {a b : Row} {l m : Rows} : sameT a b → Sim l m → Sim (a :: l) (b :: m)
theorem Sim.refl : ∀ l, Sim l l
  | [] => .nil
  | _ :: l => .cons ⟨rfl, rfl, rfl⟩ (Sim.refl l)
/-- r is p, and q behind it. -/
def Sq (q r p : Rows) : Prop := ∃ p', Sim p' p ∧ r = p' ++ q
theorem Sq.nil {q r : Rows} (h : Sq q r []) : r = q := by
  obtain ⟨p', h1, rfl⟩ := h
  cases h1; rfl
theorem Sq.obs {q r p : Rows} (h : Sq q r p) (hp : p ≠ []) : kd r = kd p ∧ tx r = tx p ∧ nm r = nm p ∧ Sq q r.tail p.tail := by
  obtain ⟨p', h1, rfl⟩ := h
  cases h1 with
  | nil => exact absurd rfl hp
  | cons hs hl => exact ⟨hs.1, hs.2.1, hs.2.2, _, hl, rfl⟩
/-- The same, or both wrong; or the lesser text ends too early. -/
def RR {α : Type} (q : Rows) (j' : Int) (x y : Res α) : Prop :=
  (∃ v r p, x = .ok (v, r) ∧ y = .ok (v, p) ∧ Sq q r p) ∨ (∃ a a' e r p, x = .error (a, e, r) ∧ y = .error (a', e, p)) ∨ (q ≠ [] ∧ ∃ p, y = .error (j', 80, p))
/-- A literal may end where its place would stand. -/
def RW {α : Type} (q : Rows) (j' : Int) (x y : Res α) : Prop := RR q j' x y ∨ (q ≠ [] ∧ ∃ v, y = .ok (v, []))
theorem rr_bnd {α β : Type} {q : Rows} {j' : Int} {x y : Res α} {f g : α → Rows → Res β} (h : RR q j' x y) (hf : ∀ v r p, Sq q r p → RR q j' (f v r) (g v p)) : RR q j' (bnd x f) (bnd y g) := by
  rcases h with ⟨v, r, p, rfl, rfl, h⟩ | ⟨a, a', e, r, p, rfl, rfl⟩ | ⟨hq, p, rfl⟩
  · exact hf v r p h
  · exact .inr (.inl ⟨a, a', e, r, p, rfl, rfl⟩)
  · exact .inr (.inr ⟨hq, p, rfl⟩)
theorem rw_bnd {α β : Type} {q : Rows} {j' : Int} {x y : Res α} {f g : α → Rows → Res β} (h : RR q j' x y) (hf : ∀ v r p, Sq q r p → RW q j' (f v r) (g v p)) : RW q j' (bnd x f) (bnd y g) := by
  rcases h with ⟨v, r, p, rfl, rfl, h⟩ | ⟨a, a', e, r, p, rfl, rfl⟩ | ⟨hq, p, rfl⟩
  · exact hf v r p h
  · exact .inl (.inr (.inl ⟨a, a', e, r, p, rfl, rfl⟩))
  · exact .inl (.inr (.inr ⟨hq, p, rfl⟩))
/-- What answers at the end that it is the end. -/
def Ends {α : Type} (F : Int → Rows → Res α) : Prop := ∀ j, F j [] = .error (j, 80, [])
theorem rr_end {α : Type} {F : Int → Rows → Res α} (hF : Ends F) {q r : Rows} {j j' : Int} (h : Sq q r []) : RR q j' (F j r) (F j' []) := by
  rw [hF j']
  by_cases hq : q = []
  · rw [h.nil, hq, hF j]; exact .inr (.inl ⟨_, _, _, _, _, rfl, rfl⟩)
  · exact .inr (.inr ⟨hq, _, rfl⟩)
theorem beg_nil : beg [] = false := rfl
theorem at_nil (j : Int) : at_ j [] = j := rfl
theorem isS_nil (s : ByteArray) : isS s [] = false := by simp [isS]
theorem ends_term : Ends termP := fun j => rfl
theorem ends_must (s : ByteArray) : Ends (mustP s) := fun j => by rw [mustP_f (isS_nil s)]; rfl
theorem ends_word : Ends wordP := fun j => rfl
theorem ends_args : Ends argsP := fun j => by unfold argsP; rw [ends_must]; rfl
theorem ends_argsL (k : Nat) (acc : Rows) : Ends fun j r => argsL (k + 1) j r acc := fun j => rfl
theorem ends_lit : Ends litP := fun j => rfl
theorem ends_bodyL (k : Nat) (acc : Rows) : Ends fun j r => bodyL (k + 1) j r acc := fun j => by
  show bodyL (k + 1) j [] acc = _
  unfold bodyL; rw [ends_lit]; rfl
theorem ends_ruleB (h : T4) (p : ByteArray) (a : Rows) (t : T4) : Ends (ruleB h p a t) := fun j => by unfold ruleB; rw [ends_must]; rfl
theorem Sq.beg {q r p : Rows} (h : Sq q r p) (hp : p ≠ []) : beg r = Den.beg p := by
  obtain ⟨h1, h2, _⟩ := h.obs hp
  unfold Den.beg; rw [h1, h2]
theorem Sq.isS {q r p : Rows} (h : Sq q r p) (hp : p ≠ []) (s : ByteArray) : isS s r = Den.isS s p := by
  obtain ⟨h1, h2, _⟩ := h.obs hp
  unfold Den.isS; rw [h1, h2]
theorem rr_err {α : Type} {q : Rows} {j' a a' e : Int} {r p : Rows} : RR q j' (.error (a, e, r) : Res α) (.error (a', e, p)) := .inr (.inl ⟨_, _, _, _, _, rfl, rfl⟩)
theorem rr_ok {α : Type} {q : Rows} {j' : Int} {v : α} {r p : Rows} (h : Sq q r p) : RR q j' (.ok (v, r) : Res α) (.ok (v, p)) := .inl ⟨_, _, _, rfl, rfl, h⟩
theorem rr_term {q r p : Rows} (h : Sq q r p) (j j' : Int) : RR q j' (termP j r) (termP j' p) := by
  by_cases hp : p = []
  · subst hp; exact rr_end ends_term h
  · obtain ⟨h1, h2, h3, h4⟩ := h.obs hp
    cases hb : beg p with
    | false => rw [termP_f hb, termP_f (by rw [h.beg hp]; exact hb)]; exact rr_err
    | true =>
      rw [termP_t hb, termP_t (by rw [h.beg hp]; exact hb)]
      have : tval r = tval p := by unfold tval; rw [h1, h2, h3]
      rw [this]; exact rr_ok h4
theorem rr_must (s : ByteArray) {q r p : Rows} (h : Sq q r p) (j j' : Int) : RR q j' (mustP s j r) (mustP s j' p) := by
  by_cases hp : p = []
  · subst hp; exact rr_end (ends_must s) h
  · obtain ⟨h1, h2, h3, h4⟩ := h.obs hp
    cases hb : isS s p with
    | false => rw [mustP_f hb, mustP_f (by rw [h.isS hp]; exact hb)]; exact rr_err
    | true => rw [mustP_t hb, mustP_t (by rw [h.isS hp]; exact hb)]; exact rr_ok h4
theorem rr_word {q r p : Rows} (h : Sq q r p) (j j' : Int) : RR q j' (wordP j r) (wordP j' p) := by
  by_cases hp : p = []
  · subst hp; exact rr_end ends_word h
  · obtain ⟨h1, h2, h3, h4⟩ := h.obs hp
    unfold wordP
    rw [h1, h2]
    cases (kd p == 1 && !kept (tx p)) with
    | false => exact rr_err
    | true => exact rr_ok h4
/-- One way where a sign comes next, another one where not. -/
theorem rr_pass {α : Type} {F G : Int → Rows → Res α} (s : ByteArray) {q r p : Rows} (h : Sq q r p) (j j' : Int) (hA : ∀ r p, Sq q r p → RR q j' (F j r) (F j' p)) (hB : ∀ r p, Sq q r p → RR q j' (G j r) (G j' p)) (hG : Ends G) :
    RR q j' (bif isS s r then F j r.tail else G j r) (bif isS s p then F j' p.tail else G j' p) := by
  by_cases hp : p = []
  · subst hp
    rw [isS_nil, cond_false]
    by_cases hq : q = []
    · have hr := h.nil; rw [hq] at hr; subst hr
      rw [isS_nil, cond_false]; exact hB _ _ h
    · rw [hG j']; exact .inr (.inr ⟨hq, _, rfl⟩)
  · rw [h.isS hp]
    obtain ⟨_, _, _, h4⟩ := h.obs hp
    cases isS s p with
    | false => exact hB _ _ h
    | true => exact hA _ _ h4
theorem rr_argsL : ∀ (k : Nat) (acc : Rows) {q r p : Rows}, Sq q r p → ∀ j j', RR q j' (argsL k j r acc) (argsL k j' p acc)
  | 0, acc, q, r, p, h, j, j' => rr_err
  | k + 1, acc, q, r, p, h, j, j' => by
    by_cases hp : p = []
    · subst hp; exact rr_end (ends_argsL k acc) h
    · unfold argsL
      rw [h.beg hp]
      cases (beg p && acc.length == 4) with
      | true => exact rr_err
      | false =>
        refine rr_bnd (rr_term h j j') fun t r p h => ?_
        refine rr_pass (F := fun _ r => .ok (acc ++ [row4 t], r)) (G := fun j r => bnd (mustP sComma j r) fun _ r => argsL k j r (acc ++ [row4 t])) sC h j j' (fun r p h => rr_ok h) (fun r p h => rr_bnd (rr_must sComma h j j') fun _ r p h => rr_argsL k _ h j j') (fun j => by show bnd (mustP sComma j []) _ = _; rw [ends_must]; rfl)
theorem rr_args {q r p : Rows} (h : Sq q r p) (j j' : Int) : RR q j' (argsP j r) (argsP j' p) := by
  unfold argsP
  refine rr_bnd (rr_must sO h j j') fun _ r p h => ?_
  exact rr_pass (F := fun _ r => .ok ([], r)) (G := fun j r => argsL 5 j r []) sC h j j' (fun r p h => rr_ok h) (fun r p h => rr_argsL 5 [] h j j') (ends_argsL 4 [])
theorem rw_litB (t : T4) {q r p : Rows} (h : Sq q r p) (j j' : Int) : RW q j' (litB t j r) (litB t j' p) := by
  unfold litB
  refine rw_bnd (rr_word h j j') fun pr r p h => rw_bnd (rr_args h j j') fun a r p h => ?_
  by_cases hp : p = []
  · subst hp
    rw [isS_nil, cond_false]
    by_cases hq : q = []
    · have hr := h.nil; rw [hq] at hr; subst hr
      rw [isS_nil, cond_false]; exact .inl (rr_ok h)
    · exact .inr ⟨hq, _, rfl⟩
  · rw [h.isS hp]
    obtain ⟨_, _, _, h4⟩ := h.obs hp
    cases isS sAt p with
    | false => exact .inl (rr_ok h)
    | true => exact .inl (rr_bnd (rr_term h4 j j') fun t r p h => rr_ok h)
theorem said_one {b : Row} : said [b] = false := rfl
theorem said_two {a b c d : Row} {l m : Rows} (h : sameT b d) : said (a :: b :: l) = said (c :: d :: m) := by
  unfold said
  have e1 : decide ((((a :: b :: l).length : Nat) : Int) > 1) = true := by simp; omega
  have e2 : decide ((((c :: d :: m).length : Nat) : Int) > 1) = true := by simp; omega
  rw [e1, e2]
  show (true && Row.I b 0 == 1 && Row.S b 1 == sSays) = (true && Row.I d 0 == 1 && Row.S d 1 == sSays)
  rw [h.1, h.2.1]
theorem rw_lit {q r p : Rows} (h : Sq q r p) (j j' : Int) : RW q j' (litP j r) (litP j' p) := by
  have hAll : said r = said p → kd r = kd p → RW q j' (litP j r) (litP j' p) := by
    intro h1 h2
    unfold litP
    rw [h1, h2]
    cases (said p || kd p != 1) with
    | true => exact rw_bnd (rr_term h j j') fun t r p h => rw_bnd (rr_must sSays h j j') fun _ r p h => rw_litB t h j j'
    | false => exact rw_litB t0 h j j'
  obtain ⟨p', hs, hr⟩ := h
  cases hs with
  | nil => exact .inl (rr_end ends_lit ⟨[], .nil, hr⟩)
  | cons ha hl =>
    rename_i a b l m
    cases hl with
    | cons hb hl =>
      refine hAll ?_ ?_
      · rw [hr]; exact said_two hb
      · rw [hr]; exact ha.1
    | nil =>
      by_cases hq : q = []
      · subst hq
        refine hAll ?_ ?_
        · rw [hr]; rfl
        · rw [hr]; exact ha.1
      · have hk : kd r = kd [b] := by rw [hr]; exact ha.1
        have ht : tx r = tx [b] := by rw [hr]; exact ha.2.1
        cases h1 : (kd [b] == 1) with
        | false =>
          left
          unfold litP
          have e1 : (said r || kd r != 1) = true := by rw [hk]; simp [bne, h1]
          have e2 : (said [b] || kd [b] != 1) = true := by simp [bne, h1]
          rw [e1, e2, cond_true, cond_true]
          have hbr : beg r = beg [b] := by unfold beg; rw [hk, ht]
          cases hb : beg [b] with
          | false => rw [termP_f hb, termP_f (hbr.trans hb)]; exact rr_err
          | true =>
            refine .inr (.inr ⟨hq, [], ?_⟩)
            rw [termP_t hb, bnd_ok]
            show bnd (mustP sSays j' []) _ = _
            rw [ends_must]; rfl
        | true =>
          have e2 : (said [b] || kd [b] != 1) = false := by rw [said_one]; simp [bne, h1]
          cases hkp : kept (tx [b]) with
          | false =>
            left; right; right
            refine ⟨hq, [], ?_⟩
            unfold litP
            rw [e2, cond_false]
            unfold litB wordP
            rw [h1, hkp]
            simp only [Bool.not_false, Bool.and_self, cond_true, bnd_ok]
            show bnd (argsP j' []) _ = _
            rw [ends_args]; rfl
          | true =>
            left; right; left
            have hx : ∀ (jj : Int) (rr : Rows), kd rr = kd [b] → tx rr = tx [b] → litP jj rr = .error (at_ jj rr, 80, rr) := by
              intro jj rr h3 h4
              have hb : beg rr = false := by
                unfold beg
                have : kd rr = 1 := by rw [h3]; simpa using h1
                rw [this, h4, hkp]; rfl
              unfold litP
              cases (said rr || kd rr != 1) with
              | true => rw [cond_true, termP_f hb]; rfl
              | false => rw [cond_false]; unfold litB wordP; rw [h4, hkp, Bool.not_true, Bool.and_false, cond_false]; rfl
            have hx1 := hx j r hk ht
            have hx2 := hx j' [b] rfl rfl
            exact ⟨_, _, _, _, _, hx1, hx2⟩
end Go.Den
namespace Go.Den
open Go.Proofs
set_option maxRecDepth 10000
theorem rr_bodyL : ∀ (k : Nat) (acc : Rows) {q r p : Rows}, Sq q r p → ∀ j j', RR q j' (bodyL k j r acc) (bodyL k j' p acc)
  | 0, acc, q, r, p, h, j, j' => rr_err
  | k + 1, acc, q, r, p, h, j, j' => by
    by_cases hp : p = []
    · subst hp; exact rr_end (ends_bodyL k acc) h
    · unfold bodyL
      rw [h.beg hp]
      cases (beg p && acc.length == 4) with
      | true => exact rr_err
      | false =>
        simp only [cond_false]
        rcases rw_lit h j j' with hl | ⟨hq, v, hv⟩
        · refine rr_bnd hl fun t r p h => ?_
          exact rr_pass (F := fun _ r => .ok (acc ++ [row10 t], r)) (G := fun j r => bnd (mustP sComma j r) fun _ r => bodyL k j r (acc ++ [row10 t])) sDot h j j' (fun r p h => rr_ok h) (fun r p h => rr_bnd (rr_must sComma h j j') fun _ r p h => rr_bodyL k _ h j j') (fun j => by show bnd (mustP sComma j []) _ = _; rw [ends_must]; rfl)
        · refine .inr (.inr ⟨hq, [], ?_⟩)
          rw [hv, bnd_ok, isS_nil, cond_false]
          show bnd (mustP sComma j' []) _ = _
          rw [ends_must]; rfl
theorem rr_ruleB (h : T4) (pr : ByteArray) (a : Rows) (t : T4) {q r p : Rows} (hs : Sq q r p) (j j' : Int) : RR q j' (ruleB h pr a t j r) (ruleB h pr a t j' p) := by
  unfold ruleB
  exact rr_bnd (rr_must sIf hs j j') fun _ r p hs => rr_bnd (rr_bodyL 5 [] hs j j') fun b r p hs => rr_ok hs
theorem rr_rule {q r p : Rows} (h : Sq q r p) (j j' : Int) : RR q j' (ruleP j r) (ruleP j' p) := by
  unfold ruleP
  refine rr_bnd (rr_term h j j') fun hm r p h => rr_bnd (rr_must sColon h j j') fun _ r p h => rr_bnd (rr_word h j j') fun w r p h => rr_bnd (rr_args h j j') fun a r p h => ?_
  exact rr_pass (F := fun j r => bnd (termP j r) fun t r => ruleB hm w a t j r) (G := fun j r => ruleB hm w a t0 j r) sTo h j j' (fun r p h => rr_bnd (rr_term h j j') fun t r p h => rr_ruleB hm w a t h j j') (fun r p h => rr_ruleB hm w a t0 h j j') (ends_ruleB hm w a t0)
theorem Sq.isEmpty {q r p : Rows} (h : Sq q r p) (hp : p ≠ []) : r ≠ [] := by
  obtain ⟨p', h1, rfl⟩ := h
  cases h1 with
  | nil => exact absurd rfl hp
  | cons => simp
theorem progL_nil (k : Nat) (j : Int) (acc : Rows) : progL (k + 1) j [] acc = .ok acc := rfl
theorem progL_cons (k : Nat) (j : Int) {r : Rows} (acc : Rows) (h : r ≠ []) : progL (k + 1) j r acc = bif beg r && acc.length == 16 then .error (at_ j r, 81) else match ruleP j r with
      | .ok (x, r) => progL k j r (acc ++ [row11 x])
      | .error (a, e, _) => .error (a, e) := by
  cases r with
  | nil => exact absurd rfl h
  | cons a l => rfl
theorem progL_pre (j : Int) : ∀ (k : Nat) (r acc l : Rows), progL k j r acc = .ok l → ∃ l2, l = acc ++ l2 := by
  intro k
  induction k with
  | zero => intro r acc l h; cases h
  | succ k ih =>
    intro r acc l h
    by_cases hr : r = []
    · subst hr; cases h; exact ⟨[], by simp⟩
    · rw [progL_cons k j acc hr] at h
      cases hc : (beg r && acc.length == 16) with
      | true => rw [hc] at h; cases h
      | false =>
        rw [hc, cond_false] at h
        rcases hr : ruleP j r with ⟨a, e, r'⟩ | ⟨x, r1⟩
        · rw [hr] at h; cases h
        · rw [hr] at h
          obtain ⟨l2, rfl⟩ := ih _ _ _ h
          exact ⟨[row11 x] ++ l2, by simp⟩
/-- Alike tokens: the same rules, or both wrong, for the same reason. -/
theorem prog_sim : ∀ (k : Nat) (acc : Rows) {r p : Rows}, Sq [] r p → ∀ j j', (∃ l, progL k j r acc = .ok l ∧ progL k j' p acc = .ok l) ∨ ∃ a a' e, progL k j r acc = .error (a, e) ∧ progL k j' p acc = .error (a', e)
  | 0, acc, r, p, h, j, j' => .inr ⟨_, _, _, rfl, rfl⟩
  | k + 1, acc, r, p, h, j, j' => by
    by_cases hp : p = []
    · subst hp
      have := h.nil; subst this
      exact .inl ⟨acc, rfl, rfl⟩
    · rw [progL_cons k j acc (h.isEmpty hp), progL_cons k j' acc hp, h.beg hp]
      cases (beg p && acc.length == 16) with
      | true => exact .inr ⟨_, _, _, rfl, rfl⟩
      | false =>
        simp only [cond_false]
        rcases rr_rule h j j' with ⟨v, r1, p1, h1, h2, h3⟩ | ⟨a, a', e, r1, p1, h1, h2⟩ | ⟨hq, _⟩
        · rw [h1, h2]; exact prog_sim k _ h3 j j'
        · rw [h1, h2]; exact .inr ⟨_, _, _, rfl, rfl⟩
        · exact absurd rfl hq
/-- A text cut off ahead of a token. -/
theorem prog_cut : ∀ (k : Nat) (acc : Rows) {q r p l : Rows}, Sq q r p → q ≠ [] → ∀ j j', progL k j r acc = .ok l → acc.length + k = 17 →
    (∃ l' l2, progL k j' p acc = .ok l' ∧ l = l' ++ l2 ∧ l2 ≠ []) ∨ progL k j' p acc = .error (j', 80)
  | 0, acc, q, r, p, l, h, hq, j, j', hl, _ => by cases hl
  | k + 1, acc, q, r, p, l, h, hq, j, j', hl, hk => by
    by_cases hp : p = []
    · subst hp
      have hr := h.nil; subst hr
      left
      rw [progL_nil]
      rw [progL_cons k j acc hq] at hl
      cases hc : (beg r && acc.length == 16) with
      | true => rw [hc] at hl; cases hl
      | false =>
        rw [hc, cond_false] at hl
        rcases hr : ruleP j r with ⟨a, e, r'⟩ | ⟨x, r1⟩
        · rw [hr] at hl; cases hl
        · rw [hr] at hl
          obtain ⟨l2, rfl⟩ := progL_pre _ _ _ _ _ hl
          exact ⟨acc, [row11 x] ++ l2, rfl, by simp, by simp⟩
    · rw [progL_cons k j acc (h.isEmpty hp), h.beg hp] at hl
      rw [progL_cons k j' acc hp]
      cases hc : (beg p && acc.length == 16) with
      | true => rw [hc] at hl; cases hl
      | false =>
        rw [hc, cond_false] at hl
        simp only [cond_false]
        rcases rr_rule h j j' with ⟨v, r1, p1, h1, h2, h3⟩ | ⟨a, a', e, r1, p1, h1, h2⟩ | ⟨hq, p1, h2⟩
        · rw [h1] at hl
          rw [h2]
          have h16 : acc.length ≠ 16 := by
            rw [ruleP_beg h2, Bool.true_and] at hc
            simpa using hc
          exact prog_cut k _ h3 hq j j' hl (by simp; omega)
        · rw [h1] at hl; cases hl
        · rw [h2]; exact .inr rfl
/-- A program with tokens behind it: they are read as they stand, behind its rules. -/
theorem prog_ext : ∀ (k : Nat) (acc : Rows) {q r p l : Rows}, Sq q r p → ∀ j j', progL k j' p acc = .ok l → acc.length + k = 17 → ∃ k', l.length + k' = 17 ∧ progL k j r acc = progL k' j q l
  | 0, acc, q, r, p, l, h, j, j', hl, _ => by cases hl
  | k + 1, acc, q, r, p, l, h, j, j', hl, hk => by
    by_cases hp : p = []
    · subst hp
      have hr := h.nil; subst hr
      cases hl
      exact ⟨k + 1, hk, rfl⟩
    · rw [progL_cons k j' acc hp] at hl
      rw [progL_cons k j acc (h.isEmpty hp), h.beg hp]
      cases hc : (beg p && acc.length == 16) with
      | true => rw [hc] at hl; cases hl
      | false =>
        rw [hc, cond_false] at hl
        simp only [cond_false]
        rcases rr_rule h j j' with ⟨v, r1, p1, h1, h2, h3⟩ | ⟨a, a', e, r1, p1, h1, h2⟩ | ⟨hq, p1, h2⟩
        · rw [h2] at hl
          rw [h1]
          exact prog_ext k _ h3 j j' hl (by simp; omega)
        · rw [h2] at hl; cases hl
        · rw [h2] at hl; cases hl
/-- More rules behind others: all of them, or too many. -/
theorem prog_more : ∀ (k : Nat) (acc m acc' : Rows) {r p : Rows}, Sq [] r p → ∀ j j', progL k j' p acc = .ok (acc ++ m) → acc.length + k = 17 → ∀ k', acc'.length + k' = 17 → acc'.length ≤ 16 →
    (acc'.length + m.length ≤ 16 → progL k' j r acc' = .ok (acc' ++ m)) ∧ (16 < acc'.length + m.length → ∃ a r'', progL k' j r acc' = .error (a, 81) ∧ r'' <:+ r ∧ a = at_ j r'')
  | 0, acc, m, acc', r, p, h, j, j', hl, _, k', hk', h16 => by cases hl
  | k + 1, acc, m, acc', r, p, h, j, j', hl, hk, k', hk', h16 => by
    obtain ⟨k', rfl⟩ : ∃ z, k' = z + 1 := ⟨k' - 1, by omega⟩
    by_cases hp : p = []
    · subst hp
      have hr := h.nil; subst hr
      have hm : m = [] := by
        rw [progL_nil] at hl
        have := Except.ok.inj hl
        simpa using this
      subst hm
      exact ⟨fun _ => by rw [progL_nil]; simp, fun h => by simp at h; omega⟩
    · rw [progL_cons k j' acc hp] at hl
      rw [progL_cons k' j acc' (h.isEmpty hp), h.beg hp]
      cases hc : (beg p && acc.length == 16) with
      | true => rw [hc] at hl; cases hl
      | false =>
        rw [hc, cond_false] at hl
        rcases rr_rule h j j' with ⟨v, r1, p1, h1, h2, h3⟩ | ⟨a, a', e, r1, p1, h1, h2⟩ | ⟨hq, p1, h2⟩
        · rw [h2] at hl
          have hb := ruleP_beg h2
          rw [hb, Bool.true_and] at hc ⊢
          have hcn : acc.length ≠ 16 := by simpa using hc
          obtain ⟨m', rfl⟩ : ∃ m', m = row11 v :: m' := by
            have hlen := progL_pre _ _ _ _ _ hl
            obtain ⟨l2, hl2⟩ := hlen
            refine ⟨l2, ?_⟩
            simpa using hl2
          have hl' : progL k j' p1 (acc ++ [row11 v]) = .ok ((acc ++ [row11 v]) ++ m') := (show progL k j' p1 (acc ++ [row11 v]) = _ from hl).trans (by simp)
          cases h16' : acc'.length == 16 with
          | true =>
            have : acc'.length = 16 := by simpa using h16'
            refine ⟨fun hle => by simp at hle; omega, fun _ => ⟨_, r, rfl, List.suffix_refl r, rfl⟩⟩
          | false =>
            have hne : acc'.length ≠ 16 := by simpa using h16'
            simp only [cond_false, h1]
            obtain ⟨g1, g2⟩ := prog_more k (acc ++ [row11 v]) m' (acc' ++ [row11 v]) h3 j j' hl' (by simp; omega) k' (by simp; omega) (by simp; omega)
            refine ⟨fun hle => ?_, fun hlt => ?_⟩
            · rw [g1 (by simp at hle ⊢; omega)]; simp
            · obtain ⟨a, r'', q1, q2, q3⟩ := g2 (by simp at hlt ⊢; omega)
              have hg := good_rule j r
              rw [h1] at hg
              exact ⟨a, r'', q1, q2.trans hg, q3⟩
        · rw [h2] at hl; cases hl
        · rw [h2] at hl; cases hl
end Go.Den
