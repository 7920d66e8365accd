import Derived.Test.YtlpnccpagikioaaDoorZ30
import Derived.Test.YtlpnccpagikioaaDoorZ25
set_option linter.unusedVariables false
set_option linter.unusedSimpArgs false
set_option linter.unusedSectionVars false
/- A shown program's tokens, and what the parser makes of them. -/
namespace Go.Den
open Go.Proofs
def tokT (t : Tm) : Tok := bif !(t.1 == noB) then (2, t.1, 0) else bif t.2.1 then (3, noB, t.2.2.1) else bif wordS t.2.2.2 then (1, t.2.2.2, 0) else (4, t.2.2.2, 0)
structure Bnd (t : Tm) : Prop where
  lo : -9223372036854775808 ≤ t.2.2.1
  hi : t.2.2.1 ≤ 9223372036854775807
/-- The cases of a term that is shown. -/
theorem term1_cases {t : Tm} {s : ByteArray} (h : term1 t = some s) :
    (∃ w, t = (w, false, 0, noB) ∧ namedS isGreat w = true ∧ s = w ∧ tokT t = (2, w, 0)) ∨ (∃ z, t = (noB, true, z, noB) ∧ s = ⟨(Go.Lib.itoa z).toArray⟩ ∧ tokT t = (3, noB, z)) ∨
    (∃ x, t = (noB, false, 0, x) ∧ wordS x = true ∧ s = x ∧ tokT t = (1, x, 0)) ∨
    (∃ x, t = (noB, false, 0, x) ∧ wordS x = false ∧ plainS x = true ∧ 1 ≤ x.size ∧ x.size ≤ 32 ∧ s = ByteArray.mk #[34] ++ x ++ ByteArray.mk #[34] ∧ tokT t = (4, x, 0)) := by
  obtain ⟨w, b, z, x⟩ := t
  unfold term1 termS at h
  simp only at h
  cases h0 : w == noB with
  | false =>
    rw [h0] at h
    simp only [Bool.not_false, cond_true] at h
    cases h1 : (b == false && (z == 0 && x == noB) && namedS isGreat w) with
    | false => rw [h1] at h; cases h
    | true =>
      rw [h1] at h
      simp only [cond_true, beq_self_eq_true, Option.some.injEq] at h
      simp only [Bool.and_eq_true, beq_iff_eq] at h1
      obtain ⟨⟨h2, h3, h4⟩, h5⟩ := h1
      subst h2 h3 h4 h
      exact .inl ⟨w, rfl, h5, rfl, by unfold tokT; rw [h0]; rfl⟩
  | true =>
    rw [h0] at h
    have hw : w = noB := eq_of_beq h0
    subst hw
    simp only [Bool.not_true, cond_false] at h
    cases b with
    | true =>
      simp only [cond_true] at h
      cases h1 : x == noB with
      | false => rw [h1] at h; cases h
      | true =>
        rw [h1] at h
        have hx : x = noB := eq_of_beq h1
        subst hx
        simp only [cond_true, beq_self_eq_true, Option.some.injEq] at h
        exact .inr (.inl ⟨z, rfl, h.symm, rfl⟩)
    | false =>
      simp only [cond_false] at h
      cases h1 : (z == 0 && (plainS x && (decide (1 ≤ x.size) && decide (x.size ≤ 32)))) with
      | false => rw [h1] at h; cases h
      | true =>
        rw [h1] at h
        simp only [Bool.and_eq_true, beq_iff_eq, decide_eq_true_eq] at h1
        obtain ⟨h2, h3, h4, h5⟩ := h1
        subst h2
        simp only [cond_true, shownS] at h
        cases h6 : (namedS isSmall x && !keptS x) with
        | true =>
          rw [h6] at h
          simp only [cond_true, beq_self_eq_true, Option.some.injEq] at h
          exact .inr (.inr (.inl ⟨x, rfl, h6, h.symm, by unfold tokT wordS; rw [h6]; rfl⟩))
        | false =>
          rw [h6] at h
          simp only [cond_false, cond_true, beq_self_eq_true, Option.some.injEq] at h
          exact .inr (.inr (.inr ⟨x, rfl, h6, h3, h4, h5, h.symm, by unfold tokT wordS; rw [h6]; rfl⟩))
@[reducible] def Stop (rest : ByteArray) : Prop := isInner (bt rest 0) = false
theorem term_lex {t : Tm} {s rest : ByteArray} {l : List Tok} (hb : Bnd t) (h : term1 t = some s) (hs : Stop rest) (hr : Lexes rest l) : Lexes (s ++ rest) (tokT t :: l) := by
  rcases term1_cases h with ⟨w, rfl, h1, rfl, h2⟩ | ⟨z, rfl, rfl, h2⟩ | ⟨x, rfl, h1, rfl, h2⟩ | ⟨x, rfl, h0, h1, h3, h4, rfl, h2⟩
  · rw [h2]; exact Lexes.var h1 hs hr
  · rw [h2]; exact Lexes.num hb.lo hb.hi hs hr
  · rw [h2]
    unfold wordS at h1
    simp only [Bool.and_eq_true] at h1
    exact Lexes.word h1.1 hs hr
  · rw [h2]; exact Lexes.quote h1 h4 hr
theorem stop_head {c : UInt8} {rest : ByteArray} (h : isInner (c.toNat : Int) = false) : Stop (ByteArray.mk #[c] ++ rest) := by
  unfold Stop; rw [bt_head]; exact h
@[reducible] def tk (c : UInt8) : Tok := (5, ByteArray.mk #[c], 0)
@[reducible] def tkW (s : ByteArray) : Tok := (1, s, 0)
/-- A text that ends in a closing sign, its tokens. -/
def argToks : Nat → List Tm → List Tok
  | _, [] => [tk 41]
  | q, t :: l => (bif decide (0 < q) then [tk 44] else []) ++ tokT t :: argToks (q + 1) l
theorem comma_eq (x : ByteArray) : comma ++ x = ByteArray.mk #[44] ++ (ByteArray.mk #[32] ++ x) := by rw [← ByteArray.append_assoc]; rfl
theorem args_lex : ∀ (l : Rows) (q : Nat) (acc s : ByteArray), (∀ r ∈ l, Bnd (tmAt r 0)) → refArgs q l acc = some s →
    ∃ tail, s = acc ++ tail ∧ ∀ rest lt, Lexes rest lt → Lexes (tail ++ rest) (argToks q (tms l) ++ lt) ∧ (0 < q → Stop (tail ++ rest))
  | [], q, acc, s, _, h => by
    cases h
    exact ⟨_, rfl, fun rest lt hr => ⟨Lexes.sign (.inr (.inl rfl)) hr, fun _ => stop_head rfl⟩⟩
  | r :: l, q, acc, s, hb, h => by
    unfold refArgs at h
    cases ht : term1 (tmAt r 0) with
    | none => rw [ht] at h; cases h
    | some u =>
      rw [ht] at h
      simp only at h
      obtain ⟨tail, h1, h2⟩ := args_lex l (q + 1) _ s (fun r hr => hb r (List.mem_cons_of_mem _ hr)) h
      have hb0 := hb r List.mem_cons_self
      cases hq : decide (0 < q) with
      | true =>
        rw [hq] at h1
        simp only [cond_true] at h1
        refine ⟨comma ++ (u ++ tail), by rw [h1]; simp only [ByteArray.append_assoc], fun rest lt hr => ?_⟩
        obtain ⟨a1, a2⟩ := h2 rest lt hr
        have e : comma ++ (u ++ tail) ++ rest = ByteArray.mk #[44] ++ (ByteArray.mk #[32] ++ (u ++ (tail ++ rest))) := by
          rw [← comma_eq]; simp only [ByteArray.append_assoc]
        rw [e]
        refine ⟨?_, fun _ => stop_head rfl⟩
        show Lexes _ ((bif decide (0 < q) then [tk 44] else []) ++ tokT (tmAt r 0) :: argToks (q + 1) (tms l) ++ lt)
        rw [hq]
        exact Lexes.sign (.inr (.inr (.inl rfl))) (Lexes.blank (.inl rfl) (term_lex hb0 ht (a2 (by omega)) a1))
      | false =>
        rw [hq] at h1
        simp only [cond_false] at h1
        refine ⟨u ++ tail, by rw [h1]; simp only [ByteArray.append_assoc], fun rest lt hr => ?_⟩
        obtain ⟨a1, a2⟩ := h2 rest lt hr
        refine ⟨?_, fun h0 => by rw [decide_eq_true h0] at hq; cases hq⟩
        show Lexes _ ((bif decide (0 < q) then [tk 44] else []) ++ tokT (tmAt r 0) :: argToks (q + 1) (tms l) ++ lt)
        rw [hq, ByteArray.append_assoc]
        exact term_lex hb0 ht (a2 (by omega)) a1
def atomToks (p : ByteArray) (l : List Tm) : List Tok := tkW p :: tk 40 :: argToks 0 l
theorem atom_lex {p s : ByteArray} {args : Rows} (hb : ∀ r ∈ args, Bnd (tmAt r 0)) (h : atomR p args = some s) {rest : ByteArray} {lt : List Tok} (hr : Lexes rest lt) : Lexes (s ++ rest) (atomToks p (tms args) ++ lt) := by
  unfold atomR at h
  cases hw : wordS p with
  | false => rw [hw] at h; cases h
  | true =>
    rw [hw] at h
    simp only [cond_true] at h
    by_cases h4 : args.length > 4
    · rw [decide_eq_true h4] at h; cases h
    · rw [decide_eq_false h4] at h
      simp only [cond_false] at h
      obtain ⟨tail, rfl, h2⟩ := args_lex args 0 _ s hb h
      have hw1 : namedS isSmall p = true := by unfold wordS at hw; simp only [Bool.and_eq_true] at hw; exact hw.1
      rw [ByteArray.append_assoc, ByteArray.append_assoc]
      exact Lexes.word hw1 (stop_head rfl) (Lexes.sign (.inl rfl) (h2 rest lt hr).1)
@[reducible] def kwSays : ByteArray := ByteArray.mk #[115, 97, 121, 115]
@[reducible] def kwTo : ByteArray := ByteArray.mk #[116, 111]
@[reducible] def kwAt : ByteArray := ByteArray.mk #[97, 116]
theorem bSays_eq (x : ByteArray) : bSays ++ x = ByteArray.mk #[32] ++ (kwSays ++ (ByteArray.mk #[32] ++ x)) := by simp only [← ByteArray.append_assoc]; rfl
theorem bTo_eq (x : ByteArray) : bTo ++ x = ByteArray.mk #[32] ++ (kwTo ++ (ByteArray.mk #[32] ++ x)) := by simp only [← ByteArray.append_assoc]; rfl
theorem bAt_eq (x : ByteArray) : bAt ++ x = ByteArray.mk #[32] ++ (kwAt ++ (ByteArray.mk #[32] ++ x)) := by simp only [← ByteArray.append_assoc]; rfl
theorem bIf_eq (x : ByteArray) : bIf ++ x = ByteArray.mk #[32] ++ (ByteArray.mk #[58, 45] ++ (ByteArray.mk #[32] ++ x)) := by simp only [← ByteArray.append_assoc]; rfl
theorem bColon_eq (x : ByteArray) : bColon ++ x = ByteArray.mk #[58] ++ (ByteArray.mk #[32] ++ x) := by simp only [← ByteArray.append_assoc]; rfl
def byToks (t : Tm) : List Tok := bif nilT t then [] else [tokT t, tkW kwSays]
def atToks (kw : ByteArray) (t : Tm) : List Tok := bif nilT t then [] else [tkW kw, tokT t]
theorem by_lex {t : Tm} {s : ByteArray} (hb : Bnd t) (h : maybeR noB t bSays = some s) {rest : ByteArray} {lt : List Tok} (hr : Lexes rest lt) : Lexes (s ++ rest) (byToks t ++ lt) := by
  unfold maybeR at h
  unfold byToks
  cases hn : nilT t with
  | true => rw [hn] at h; cases h; rw [emp_append]; exact hr
  | false =>
    rw [hn] at h
    simp only [cond_false] at h ⊢
    cases ht : term1 t with
    | none => rw [ht] at h; cases h
    | some u =>
      rw [ht] at h
      cases h
      rw [emp_append, ByteArray.append_assoc, bSays_eq]
      exact term_lex hb ht (stop_head rfl) (Lexes.blank (.inl rfl) (Lexes.word (by decide) (stop_head rfl) (Lexes.blank (.inl rfl) hr)))
theorem to_lex {t : Tm} {s : ByteArray} (hb : Bnd t) (h : maybeR bTo t noB = some s) {rest : ByteArray} {lt : List Tok} (hs : Stop rest) (hr : Lexes rest lt) : Lexes (s ++ rest) (atToks kwTo t ++ lt) ∧ Stop (s ++ rest) := by
  unfold maybeR at h
  unfold atToks
  cases hn : nilT t with
  | true => rw [hn] at h; cases h; rw [emp_append]; exact ⟨hr, hs⟩
  | false =>
    rw [hn] at h
    simp only [cond_false] at h ⊢
    cases ht : term1 t with
    | none => rw [ht] at h; cases h
    | some u =>
      rw [ht] at h
      cases h
      rw [append_emp, ByteArray.append_assoc, bTo_eq]
      exact ⟨Lexes.blank (.inl rfl) (Lexes.word (by decide) (stop_head rfl) (Lexes.blank (.inl rfl) (term_lex hb ht hs hr))), stop_head rfl⟩
theorem at_lex {t : Tm} {s : ByteArray} (hb : Bnd t) (h : maybeR bAt t noB = some s) {rest : ByteArray} {lt : List Tok} (hs : Stop rest) (hr : Lexes rest lt) : Lexes (s ++ rest) (atToks kwAt t ++ lt) ∧ Stop (s ++ rest) := by
  unfold maybeR at h
  unfold atToks
  cases hn : nilT t with
  | true => rw [hn] at h; cases h; rw [emp_append]; exact ⟨hr, hs⟩
  | false =>
    rw [hn] at h
    simp only [cond_false] at h ⊢
    cases ht : term1 t with
    | none => rw [ht] at h; cases h
    | some u =>
      rw [ht] at h
      cases h
      rw [append_emp, ByteArray.append_assoc, bAt_eq]
      exact ⟨Lexes.blank (.inl rfl) (Lexes.word (by decide) (stop_head rfl) (Lexes.blank (.inl rfl) (term_lex hb ht hs hr))), stop_head rfl⟩
structure BndL (d : LitD) : Prop where
  by_ : Bnd d.1
  args : ∀ t ∈ d.2.2.1, Bnd t
  at_ : Bnd d.2.2.2
structure BndR (d : RuleD) : Prop where
  home : Bnd d.1
  args : ∀ t ∈ d.2.2.1, Bnd t
  to_ : Bnd d.2.2.2.1
  body : ∀ l ∈ d.2.2.2.2, BndL l
theorem bnd_rows {l : Rows} (h : ∀ t ∈ tms l, Bnd t) : ∀ r ∈ l, Bnd (tmAt r 0) := fun r hr => h _ (List.mem_map.2 ⟨r, hr, rfl⟩)
def litToks (d : LitD) : List Tok := byToks d.1 ++ (atomToks d.2.1 d.2.2.1 ++ atToks kwAt d.2.2.2)
theorem lit_lex {l : Row} {s : ByteArray} (hb : BndL (litD l)) (h : litR l = some s) {rest : ByteArray} {lt : List Tok} (hs : Stop rest) (hr : Lexes rest lt) : Lexes (s ++ rest) (litToks (litD l) ++ lt) := by
  unfold litR at h
  split at h
  · rename_i x y z h1 h2 h3
    cases h
    have a3 := at_lex hb.at_ h3 hs hr
    have a2 := atom_lex (bnd_rows hb.args) h2 a3.1
    have a1 := by_lex hb.by_ h1 a2
    unfold litToks
    simp only [ByteArray.append_assoc, List.append_assoc] at a1 ⊢
    exact a1
  · cases h
def bodyToks : Nat → List LitD → List Tok
  | _, [] => [tk 46]
  | q, d :: l => (bif decide (0 < q) then [tk 44] else []) ++ (litToks d ++ bodyToks (q + 1) l)
theorem body_lex : ∀ (l : Rows) (q : Nat) (acc s : ByteArray), (∀ r ∈ l, BndL (litD r)) → bodyR q l acc = some s →
    ∃ tail, s = acc ++ tail ∧ ∀ rest lt, Lexes rest lt → Lexes (tail ++ rest) (bodyToks q (l.map litD) ++ lt) ∧ (0 < q → Stop (tail ++ rest))
  | [], q, acc, s, _, h => by
    cases h
    exact ⟨_, rfl, fun rest lt hr => ⟨Lexes.sign (.inr (.inr (.inr rfl))) hr, fun _ => stop_head rfl⟩⟩
  | r :: l, q, acc, s, hb, h => by
    unfold bodyR at h
    cases ht : litR r with
    | none => rw [ht] at h; cases h
    | some u =>
      rw [ht] at h
      simp only at h
      obtain ⟨tail, h1, h2⟩ := body_lex l (q + 1) _ s (fun r hr => hb r (List.mem_cons_of_mem _ hr)) h
      have hb0 := hb r List.mem_cons_self
      cases hq : decide (0 < q) with
      | true =>
        rw [hq] at h1
        simp only [cond_true] at h1
        refine ⟨comma ++ (u ++ tail), by rw [h1]; simp only [ByteArray.append_assoc], fun rest lt hr => ?_⟩
        obtain ⟨a1, a2⟩ := h2 rest lt hr
        have e : comma ++ (u ++ tail) ++ rest = ByteArray.mk #[44] ++ (ByteArray.mk #[32] ++ (u ++ (tail ++ rest))) := by
          rw [← comma_eq]; simp only [ByteArray.append_assoc]
        rw [e]
        refine ⟨?_, fun _ => stop_head rfl⟩
        show Lexes _ ((bif decide (0 < q) then [tk 44] else []) ++ (litToks (litD r) ++ bodyToks (q + 1) (l.map litD)) ++ lt)
        rw [hq]
        have := lit_lex hb0 ht (a2 (by omega)) a1
        rw [← List.append_assoc] at this
        exact Lexes.sign (.inr (.inr (.inl rfl))) (Lexes.blank (.inl rfl) this)
      | false =>
        rw [hq] at h1
        simp only [cond_false] at h1
        refine ⟨u ++ tail, by rw [h1]; simp only [ByteArray.append_assoc], fun rest lt hr => ?_⟩
        obtain ⟨a1, a2⟩ := h2 rest lt hr
        refine ⟨?_, fun h0 => by rw [decide_eq_true h0] at hq; cases hq⟩
        show Lexes _ ((bif decide (0 < q) then [tk 44] else []) ++ (litToks (litD r) ++ bodyToks (q + 1) (l.map litD)) ++ lt)
        rw [hq, ByteArray.append_assoc]
        have := lit_lex hb0 ht (a2 (by omega)) a1
        rw [← List.append_assoc] at this
        exact this
def ruleToks (d : RuleD) : List Tok := tokT d.1 :: tk 58 :: (atomToks d.2.1 d.2.2.1 ++ (atToks kwTo d.2.2.2.1 ++ (5, ByteArray.mk #[58, 45], 0) :: bodyToks 0 d.2.2.2.2))
theorem rule_lex {r : Row} {s : ByteArray} (hb : BndR (ruleD r)) (h : ruleR r = some s) {rest : ByteArray} {lt : List Tok} (hr : Lexes rest lt) : Lexes (s ++ rest) (ruleToks (ruleD r) ++ lt) := by
  unfold ruleR headR at h
  cases h1 : decide ((Row.R r 10).length < 1) with
  | true => rw [h1] at h; cases h
  | false =>
  cases h2 : decide ((Row.R r 10).length > 4) with
  | true => rw [h1, h2] at h; cases h
  | false =>
  rw [h1, h2] at h
  simp only [cond_false] at h
  split at h
  · rename_i u hu
    split at hu
    · rename_i x y z e1 e2 e3
      cases hu
      obtain ⟨tail, rfl, h3⟩ := body_lex (Row.R r 10) 0 _ s (fun l hl => hb.body _ (List.mem_map.2 ⟨l, hl, rfl⟩)) h
      have a4 := (h3 rest lt hr).1
      have a3 := Lexes.blank (c := 32) (.inl rfl) (Lexes.if_ (Lexes.blank (c := 32) (.inl rfl) a4))
      rw [← bIf_eq] at a3
      have a2 := to_lex hb.to_ e3 (rest := bIf ++ (tail ++ rest)) (by rw [bIf_eq]; exact stop_head rfl) a3
      have a1 := atom_lex (bnd_rows hb.args) e2 a2.1
      have a0 := Lexes.colon (rest := ByteArray.mk #[32] ++ (y ++ (z ++ (bIf ++ (tail ++ rest))))) (by rw [bt_head]; rfl) (Lexes.blank (.inl rfl) a1)
      rw [← bColon_eq] at a0
      have := term_lex hb.home e1 (by rw [bColon_eq]; exact stop_head rfl) a0
      unfold ruleToks
      simp only [ByteArray.append_assoc, List.append_assoc, List.cons_append] at this ⊢
      exact this
    · cases hu
  · cases h
def progToks : List RuleD → List Tok
  | [] => []
  | d :: l => ruleToks d ++ progToks l
theorem prog_lex : ∀ (l : Rows) (acc s : ByteArray), (∀ r ∈ l, BndR (ruleD r)) → progR l acc = some s → ∃ tail, s = acc ++ tail ∧ Lexes tail (progToks (l.map ruleD))
  | [], acc, s, _, h => by cases h; exact ⟨noB, (append_emp _).symm, Lexes.nil⟩
  | r :: l, acc, s, hb, h => by
    unfold progR at h
    cases ht : ruleR r with
    | none => rw [ht] at h; cases h
    | some u =>
      rw [ht] at h
      simp only at h
      obtain ⟨tail, rfl, h2⟩ := prog_lex l _ s (fun r hr => hb r (List.mem_cons_of_mem _ hr)) h
      refine ⟨u ++ (ByteArray.mk #[10] ++ tail), by simp only [ByteArray.append_assoc], ?_⟩
      exact rule_lex (hb r List.mem_cons_self) ht (Lexes.blank (.inr rfl) h2)
end Go.Den
