import Derived.Test.YtlpnccpagikioaaDoorZ31
set_option linter.unusedVariables false
set_option linter.unusedSimpArgs false
set_option linter.unusedSectionVars false
/- The parser on what is shown. -/
namespace Go.Den
open Go.Proofs
def okT (t : Tm) : Prop := ∃ s, term1 t = some s
def okM (t : Tm) : Prop := nilT t = true ∨ okT t
structure OkL (d : LitD) : Prop where
  by_ : okM d.1
  word : wordS d.2.1 = true
  len : d.2.2.1.length ≤ 4
  args : ∀ t ∈ d.2.2.1, okT t
  at_ : okM d.2.2.2
structure OkR (d : RuleD) : Prop where
  home : okT d.1
  word : wordS d.2.1 = true
  len : d.2.2.1.length ≤ 4
  args : ∀ t ∈ d.2.2.1, okT t
  to_ : okM d.2.2.2.1
  some_ : 1 ≤ d.2.2.2.2.length
  few : d.2.2.2.2.length ≤ 4
  body : ∀ l ∈ d.2.2.2.2, OkL l
theorem refArgs_ok : ∀ (l : Rows) (q : Nat) (acc : ByteArray), (∃ s, refArgs q l acc = some s) ↔ ∀ t ∈ tms l, okT t
  | [], q, acc => ⟨fun _ t ht => (by cases ht), fun _ => ⟨_, rfl⟩⟩
  | r :: l, q, acc => by
    unfold refArgs
    have e : tms (r :: l) = tmAt r 0 :: tms l := rfl
    rw [e]
    cases ht : term1 (tmAt r 0) with
    | none => exact ⟨fun ⟨s, h⟩ => (by cases h), fun h => by obtain ⟨s, hs⟩ := h _ List.mem_cons_self; rw [ht] at hs; cases hs⟩
    | some u =>
      simp only
      rw [refArgs_ok l (q + 1) _]
      constructor
      · intro h t hm
        rcases List.mem_cons.1 hm with rfl | hm
        · exact ⟨u, ht⟩
        · exact h t hm
      · exact fun h t hm => h t (List.mem_cons_of_mem _ hm)
theorem atomR_ok (p : ByteArray) (args : Rows) : (∃ s, atomR p args = some s) ↔ wordS p = true ∧ (tms args).length ≤ 4 ∧ ∀ t ∈ tms args, okT t := by
  unfold atomR
  rw [tms_len]
  cases hw : wordS p with
  | false => exact ⟨fun ⟨s, h⟩ => (by cases h), fun h => by cases h.1⟩
  | true =>
    simp only [cond_true]
    by_cases h4 : args.length > 4
    · rw [decide_eq_true h4]
      exact ⟨fun ⟨s, h⟩ => (by cases h), fun h => by omega⟩
    · rw [decide_eq_false h4]
      simp only [cond_false]
      rw [refArgs_ok]
      exact ⟨fun h => ⟨trivial, by omega, h⟩, fun h => h.2.2⟩
theorem maybeR_ok (a b : ByteArray) (t : Tm) : (∃ s, maybeR a t b = some s) ↔ okM t := by
  unfold maybeR okM okT
  cases nilT t with
  | true => exact ⟨fun _ => .inl rfl, fun _ => ⟨_, rfl⟩⟩
  | false =>
    simp only [cond_false]
    cases term1 t with
    | none => exact ⟨fun ⟨s, h⟩ => (by cases h), fun h => by rcases h with h | ⟨s, h⟩ <;> cases h⟩
    | some u => exact ⟨fun _ => .inr ⟨u, rfl⟩, fun _ => ⟨_, rfl⟩⟩
theorem litR_ok (l : Row) : (∃ s, litR l = some s) ↔ OkL (litD l) := by
  have h1 := maybeR_ok noB bSays (tmAt l 0)
  have h2 := atomR_ok (Row.S l 4) (Row.R l 5)
  have h3 := maybeR_ok bAt noB (tmAt l 6)
  unfold litR
  constructor
  · rintro ⟨s, h⟩
    split at h
    · rename_i x y z e1 e2 e3
      have a := h2.1 ⟨_, e2⟩
      exact ⟨h1.1 ⟨_, e1⟩, a.1, a.2.1, a.2.2, h3.1 ⟨_, e3⟩⟩
    · cases h
  · intro h
    obtain ⟨x, e1⟩ := h1.2 h.by_
    obtain ⟨y, e2⟩ := h2.2 ⟨h.word, h.len, h.args⟩
    obtain ⟨z, e3⟩ := h3.2 h.at_
    rw [e1, e2, e3]; exact ⟨_, rfl⟩
theorem bodyR_ok : ∀ (l : Rows) (q : Nat) (acc : ByteArray), (∃ s, bodyR q l acc = some s) ↔ ∀ d ∈ l.map litD, OkL d
  | [], q, acc => ⟨fun _ t ht => (by cases ht), fun _ => ⟨_, rfl⟩⟩
  | r :: l, q, acc => by
    unfold bodyR
    rw [List.map_cons]
    have h0 := litR_ok r
    cases ht : litR r with
    | none =>
      rw [ht] at h0
      exact ⟨fun ⟨s, h⟩ => (by cases h), fun h => by obtain ⟨s, hs⟩ := h0.2 (h _ List.mem_cons_self); cases hs⟩
    | some u =>
      rw [ht] at h0
      simp only
      rw [bodyR_ok l (q + 1) _]
      constructor
      · intro h t hm
        rcases List.mem_cons.1 hm with rfl | hm
        · exact h0.1 ⟨u, rfl⟩
        · exact h t hm
      · exact fun h t hm => h t (List.mem_cons_of_mem _ hm)
theorem ruleR_ok (r : Row) : (∃ s, ruleR r = some s) ↔ OkR (ruleD r) := by
  have hl : ((Row.R r 10).map litD).length = (Row.R r 10).length := List.length_map ..
  have h2 := atomR_ok (Row.S r 4) (Row.R r 5)
  have h3 := maybeR_ok bTo noB (tmAt r 6)
  unfold ruleR headR
  constructor
  · rintro ⟨s, h⟩
    by_cases c1 : (Row.R r 10).length < 1
    · rw [decide_eq_true c1] at h; cases h
    by_cases c2 : (Row.R r 10).length > 4
    · rw [decide_eq_false c1, decide_eq_true c2] at h; cases h
    rw [decide_eq_false c1, decide_eq_false c2] at h
    simp only [cond_false] at h
    split at h
    · rename_i u hu
      split at hu
      · rename_i x y z e1 e2 e3
        have a := h2.1 ⟨_, e2⟩
        exact ⟨⟨_, e1⟩, a.1, a.2.1, a.2.2, h3.1 ⟨_, e3⟩, by show 1 ≤ ((Row.R r 10).map litD).length; omega, by show ((Row.R r 10).map litD).length ≤ 4; omega, (bodyR_ok _ 0 _).1 ⟨_, h⟩⟩
      · cases hu
    · cases h
  · intro h
    obtain ⟨x, e1⟩ := h.home
    have e1' : term1 (tmAt r 0) = some x := e1
    obtain ⟨y, e2⟩ := h2.2 ⟨h.word, h.len, h.args⟩
    obtain ⟨z, e3⟩ := h3.2 h.to_
    have s1 : 1 ≤ ((Row.R r 10).map litD).length := h.some_
    have s2 : ((Row.R r 10).map litD).length ≤ 4 := h.few
    rw [decide_eq_false (by omega), decide_eq_false (by omega), e1', e2, e3]
    exact (bodyR_ok _ 0 _).2 h.body
/-! the parser -/
theorem head_tok {R : Rows} {k v : Int} {x : ByteArray} {l : List Tok} (h : R.map tokOf = (k, x, v) :: l) : kd R = k ∧ tx R = x ∧ nm R = v ∧ R.tail.map tokOf = l ∧ R ≠ [] := by
  cases R with
  | nil => cases h
  | cons r R =>
    simp only [List.map_cons, List.cons.injEq] at h
    have h1 := h.1
    unfold tokOf at h1
    simp only [Prod.mk.injEq] at h1
    exact ⟨h1.1, h1.2.1, h1.2.2, h.2, List.cons_ne_nil _ _⟩
theorem kept_eq (s : ByteArray) : kept s = keptS s := by unfold kept keptS; rw [Bool.or_assoc]
@[reducible] def t4 (t : Tm) : T4 := (t.1, t.2.1, t.2.2.1, t.2.2.2, ())
theorem quote_ne {x : ByteArray} (h : 1 ≤ x.size) : (x == noB) = false := by
  cases hx : x == noB with
  | false => rfl
  | true =>
    have : x = noB := eq_of_beq hx
    rw [this] at h
    exact absurd h (by decide)
theorem term_parse {t : Tm} (ho : okT t) {R : Rows} {j : Int} {l : List Tok} (h : R.map tokOf = tokT t :: l) : termP j R = .ok (t4 t, R.tail) ∧ R.tail.map tokOf = l ∧ (kd R == 5) = false ∧ kd R ≠ 5 := by
  obtain ⟨s, hs⟩ := ho
  rcases term1_cases hs with ⟨w, rfl, h1, rfl, h2⟩ | ⟨z, rfl, rfl, h2⟩ | ⟨x, rfl, h1, rfl, h2⟩ | ⟨x, rfl, h0, h1, h3, h4, rfl, h2⟩
  · rw [h2] at h
    obtain ⟨a, b, c, d, e⟩ := head_tok h
    refine ⟨?_, d, by rw [a]; rfl, by rw [a]; decide⟩
    unfold termP beg tval
    rw [a, b]; rfl
  · rw [h2] at h
    obtain ⟨a, b, c, d, e⟩ := head_tok h
    refine ⟨?_, d, by rw [a]; rfl, by rw [a]; decide⟩
    unfold termP beg tval
    rw [a, c]; rfl
  · rw [h2] at h
    obtain ⟨a, b, c, d, e⟩ := head_tok h
    refine ⟨?_, d, by rw [a]; rfl, by rw [a]; decide⟩
    unfold wordS at h1
    simp only [Bool.and_eq_true, Bool.not_eq_true'] at h1
    unfold termP beg tval
    rw [a, b, kept_eq, h1.2]; rfl
  · rw [h2] at h
    obtain ⟨a, b, c, d, e⟩ := head_tok h
    refine ⟨?_, d, by rw [a]; rfl, by rw [a]; decide⟩
    unfold termP beg tval
    rw [a, b, show (x == ByteArray.mk #[]) = false from quote_ne h3]; rfl
theorem sign_parse {s : ByteArray} {R : Rows} {j : Int} {v : Int} {l : List Tok} (h : R.map tokOf = (5, s, v) :: l) : isS s R = true ∧ mustP s j R = .ok ((), R.tail) ∧ R.tail.map tokOf = l := by
  obtain ⟨a, b, c, d, e⟩ := head_tok h
  have hi : isS s R = true := by unfold isS; rw [a, b]; simp
  exact ⟨hi, mustP_t hi, d⟩
theorem kw_parse {s : ByteArray} {R : Rows} {j : Int} {v : Int} {l : List Tok} (hk : kept s = true) (h : R.map tokOf = (1, s, v) :: l) : isS s R = true ∧ mustP s j R = .ok ((), R.tail) ∧ R.tail.map tokOf = l := by
  obtain ⟨a, b, c, d, e⟩ := head_tok h
  have hi : isS s R = true := by unfold isS; rw [a, b, hk]; simp
  exact ⟨hi, mustP_t hi, d⟩
theorem not_sign {s x : ByteArray} {R : Rows} {k v : Int} {l : List Tok} (h : R.map tokOf = (k, x, v) :: l) (hx : x ≠ s ∨ (k ≠ 5 ∧ kept s = false)) : isS s R = false := by
  obtain ⟨a, b, c, d, e⟩ := head_tok h
  unfold isS
  rw [a, b]
  rcases hx with hx | ⟨h1, h2⟩
  · have : (x == s) = false := by simpa using hx
    rw [this]; rfl
  · have : (k == 5) = false := by simpa using h1
    rw [this, h2]; simp
theorem word_parse {p : ByteArray} {R : Rows} {j : Int} {l : List Tok} (hw : wordS p = true) (h : R.map tokOf = tkW p :: l) : wordP j R = .ok (p, R.tail) ∧ R.tail.map tokOf = l ∧ (kd R != 1) = false := by
  obtain ⟨a, b, c, d, e⟩ := head_tok h
  unfold wordS at hw
  simp only [Bool.and_eq_true, Bool.not_eq_true'] at hw
  refine ⟨?_, d, by rw [a]; rfl⟩
  unfold wordP
  rw [a, b, kept_eq, hw.2]; rfl
theorem sC_not {t : Tm} (ho : okT t) {R : Rows} {l : List Tok} (h : R.map tokOf = tokT t :: l) (s : ByteArray) (hk : kept s = false) : isS s R = false := by
  obtain ⟨_, _, _, hk5⟩ := term_parse (j := 0) ho h
  have : tokT t = ((tokT t).1, (tokT t).2.1, (tokT t).2.2) := rfl
  rw [this] at h
  obtain ⟨a, _⟩ := head_tok h
  exact not_sign h (.inr ⟨fun e => hk5 (by rw [a, e]), hk⟩)
theorem argsL_parse : ∀ (l : List Tm) (t : Tm) (q k : Nat) (R acc : Rows) (j : Int) (lt : List Tok), 0 < q → okT t → (∀ u ∈ l, okT u) → acc.length + 1 + l.length ≤ 4 → l.length < k → R.map tokOf = tokT t :: (argToks q l ++ lt) →
    ∃ a R', argsL k j R acc = .ok (a, R') ∧ R'.map tokOf = lt ∧ tms a = tms acc ++ t :: l
  | [], t, q, k, R, acc, j, lt, hq, ho, hl, hn, hk, h => by
    obtain ⟨k, rfl⟩ : ∃ z, k = z + 1 := ⟨k - 1, by simp at hk; omega⟩
    obtain ⟨h1, h2, _, _⟩ := term_parse (j := j) ho h
    obtain ⟨h3, _, h4⟩ := sign_parse (j := j) h2
    refine ⟨acc ++ [row4 (t4 t)], R.tail.tail, ?_, h4, by unfold tms; rw [List.map_append]; rfl⟩
    unfold argsL
    have hn' : (acc.length == 4) = false := by simp at hn; simpa using (show ¬ acc.length = 4 by omega)
    rw [hn', Bool.and_false, cond_false, h1, bnd_ok, h3]; rfl
  | u :: l, t, q, k, R, acc, j, lt, hq, ho, hl, hn, hk, h => by
    obtain ⟨k, rfl⟩ : ∃ z, k = z + 1 := ⟨k - 1, by simp at hk; omega⟩
    simp only [List.length_cons] at hn hk
    obtain ⟨h1, h2, _, _⟩ := term_parse (j := j) ho h
    have e : argToks q (u :: l) ++ lt = tk 44 :: (tokT u :: (argToks (q + 1) l ++ lt)) := by
      show (bif decide (0 < q) then [tk 44] else []) ++ tokT u :: argToks (q + 1) l ++ lt = _
      rw [decide_eq_true hq]; rfl
    rw [e] at h2
    obtain ⟨h3, h3', h4⟩ := sign_parse (j := j) h2
    have h3c : mustP sComma j R.tail = .ok ((), R.tail.tail) := h3'
    have hC : isS sC R.tail = false := not_sign h2 (.inl (by decide))
    obtain ⟨a, R', g1, g2, g3⟩ := argsL_parse l u (q + 1) k R.tail.tail (acc ++ [row4 (t4 t)]) j lt (by omega) (hl u List.mem_cons_self) (fun v hv => hl v (List.mem_cons_of_mem _ hv)) (by simp; omega) (by omega) h4
    refine ⟨a, R', ?_, g2, by rw [g3]; unfold tms; rw [List.map_append, List.append_assoc]; rfl⟩
    have hn' : (acc.length == 4) = false := by simpa using (show ¬ acc.length = 4 by omega)
    rw [← g1]
    show argsL (k + 1) j R acc = _
    conv => lhs; unfold argsL
    rw [hn', Bool.and_false, cond_false, h1, bnd_ok, hC, cond_false, h3c, bnd_ok]
theorem argsP_parse {l : List Tm} (hl : ∀ u ∈ l, okT u) (hn : l.length ≤ 4) {R : Rows} {j : Int} {lt : List Tok} (h : R.map tokOf = tk 40 :: (argToks 0 l ++ lt)) : ∃ a R', argsP j R = .ok (a, R') ∧ R'.map tokOf = lt ∧ tms a = l := by
  obtain ⟨_, h1, h2⟩ := sign_parse (j := j) h
  have h1' : mustP sO j R = .ok ((), R.tail) := h1
  unfold argsP
  rw [h1', bnd_ok]
  cases l with
  | nil =>
    obtain ⟨h3, _, h4⟩ := sign_parse (j := j) h2
    have h3' : isS sC R.tail = true := h3
    rw [h3']
    exact ⟨[], R.tail.tail, rfl, h4, rfl⟩
  | cons u l =>
    have h2' : R.tail.map tokOf = tokT u :: (argToks 1 l ++ lt) := h2
    rw [sC_not (hl u List.mem_cons_self) h2' sC rfl, cond_false]
    obtain ⟨a, R', g1, g2, g3⟩ := argsL_parse l u 1 5 R.tail [] j lt (by omega) (hl u List.mem_cons_self) (fun v hv => hl v (List.mem_cons_of_mem _ hv)) (by simp only [List.length_cons, List.length_nil] at *; omega) (by simp only [List.length_cons] at *; omega) h2'
    exact ⟨a, R', g1, g2, g3⟩
theorem nilT_eq {t : Tm} (h : nilT t = true) : t = (noB, false, 0, noB) := by
  obtain ⟨a, b, c, d⟩ := t
  unfold nilT at h
  simp only [Bool.and_true, Bool.and_eq_true, beq_iff_eq] at h
  obtain ⟨rfl, rfl, rfl, rfl⟩ := h
  rfl
theorem okM_nil {t : Tm} (h : okM t) (hn : nilT t = false) : okT t := by
  rcases h with h | h
  · rw [h] at hn; cases hn
  · exact h
theorem litB_parse {by_ : Tm} {p : ByteArray} {args : List Tm} {at' : Tm} (hw : wordS p = true) (hl : ∀ u ∈ args, okT u) (hn : args.length ≤ 4) (ha : okM at') {R : Rows} {j : Int} {c : UInt8} {lt : List Tok}
    (h : R.map tokOf = tkW p :: tk 40 :: (argToks 0 args ++ (atToks kwAt at' ++ tk c :: lt))) : ∃ x R', litB (t4 by_) j R = .ok (x, R') ∧ R'.map tokOf = tk c :: lt ∧ litD (row10 x) = (by_, p, args, at') := by
  obtain ⟨h1, h2, _⟩ := word_parse (j := j) hw h
  obtain ⟨a, R', g1, g2, g3⟩ := argsP_parse (j := j) hl hn h2
  unfold litB
  rw [h1, bnd_ok, g1, bnd_ok]
  cases hna : nilT at' with
  | true =>
    have e0 := nilT_eq hna
    have g2' : R'.map tokOf = tk c :: lt := by rw [g2]; unfold atToks; rw [hna]; rfl
    have hs : isS sAt R' = false := not_sign g2' (.inl (by
      intro e
      have := congrArg ByteArray.size e
      exact absurd this (by show ¬ 1 = 2; decide)))
    rw [hs, cond_false]
    refine ⟨_, R', rfl, g2', ?_⟩
    rw [e0]
    unfold litD mkL
    show (by_, p, tms a, (noB, false, 0, noB)) = _
    rw [g3]
  | false =>
    have g2' : R'.map tokOf = tkW kwAt :: (tokT at' :: tk c :: lt) := by rw [g2]; unfold atToks; rw [hna]; rfl
    obtain ⟨k1, _, k3⟩ := kw_parse (j := j) (s := kwAt) rfl g2'
    have k1' : isS sAt R' = true := k1
    obtain ⟨m1, m2, _, _⟩ := term_parse (j := j) (okM_nil ha hna) k3
    rw [k1', cond_true, m1, bnd_ok]
    refine ⟨_, _, rfl, m2, ?_⟩
    unfold litD mkL
    show (by_, p, tms a, at') = _
    rw [g3]
theorem said_f {R : Rows} {a b : Tok} {l : List Tok} (h : R.map tokOf = a :: b :: l) (hb : b.1 ≠ 1) : said R = false := by
  match R, h with
  | r :: s :: R, h =>
    simp only [List.map_cons, List.cons.injEq] at h
    unfold said
    have : Row.I s 0 = b.1 := congrArg Prod.fst h.2.1
    show (decide _ && Row.I s 0 == 1 && _) = false
    rw [this]
    have : (b.1 == 1) = false := by simpa using hb
    rw [this]; simp
theorem said_t {R : Rows} {a : Tok} {l : List Tok} (h : R.map tokOf = a :: tkW kwSays :: l) : said R = true := by
  match R, h with
  | r :: s :: R, h =>
    simp only [List.map_cons, List.cons.injEq] at h
    unfold said
    have h1 : Row.I s 0 = 1 := congrArg Prod.fst h.2.1
    have h2 : Row.S s 1 = kwSays := congrArg (fun t => t.2.1) h.2.1
    show (decide (((r :: s :: R).length : Int) > 1) && Row.I s 0 == 1 && Row.S s 1 == sSays) = true
    rw [h1, h2, decide_eq_true (by simp only [List.length_cons]; omega)]; rfl
theorem litP_parse {d : LitD} (hd : OkL d) {R : Rows} {j : Int} {c : UInt8} {lt : List Tok} (h : R.map tokOf = litToks d ++ tk c :: lt) : ∃ x R', litP j R = .ok (x, R') ∧ R'.map tokOf = tk c :: lt ∧ litD (row10 x) = d := by
  obtain ⟨by_, p, args, at'⟩ := d
  unfold litToks byToks atomToks at h
  unfold litP
  cases hnb : nilT by_ with
  | true =>
    have e0 := nilT_eq hnb
    simp only [hnb, cond_true, List.nil_append, List.cons_append, List.append_assoc] at h
    obtain ⟨_, _, hk⟩ := word_parse (j := j) hd.word h
    rw [said_f h (by show (5 : Int) ≠ 1; decide), hk, Bool.or_self, cond_false]
    have := litB_parse (by_ := by_) hd.word hd.args hd.len hd.at_ (j := j) h
    rw [e0] at this ⊢
    exact this
  | false =>
    simp only [hnb, cond_false, List.cons_append, List.nil_append, List.append_assoc] at h
    rw [said_t h, Bool.true_or, cond_true]
    obtain ⟨m1, m2, _, _⟩ := term_parse (j := j) (okM_nil hd.by_ hnb) h
    obtain ⟨_, k2, k3⟩ := kw_parse (j := j) (s := kwSays) rfl m2
    have k2' : mustP sSays j R.tail = .ok ((), R.tail.tail) := k2
    rw [m1, bnd_ok, k2', bnd_ok]
    exact litB_parse (by_ := by_) hd.word hd.args hd.len hd.at_ (j := j) k3
theorem bodyL_parse : ∀ (l : List LitD) (d : LitD) (q k : Nat) (R acc : Rows) (j : Int) (lt : List Tok), 0 < q → OkL d → (∀ u ∈ l, OkL u) → acc.length + 1 + l.length ≤ 4 → l.length < k → R.map tokOf = litToks d ++ (bodyToks q l ++ lt) →
    ∃ a R', bodyL k j R acc = .ok (a, R') ∧ R'.map tokOf = lt ∧ a.map litD = acc.map litD ++ d :: l
  | [], d, q, k, R, acc, j, lt, hq, ho, hl, hn, hk, h => by
    obtain ⟨k, rfl⟩ : ∃ z, k = z + 1 := ⟨k - 1, by simp at hk; omega⟩
    obtain ⟨x, R', h1, h2, h3⟩ := litP_parse (j := j) (c := 46) (lt := lt) ho h
    obtain ⟨h4, _, h5⟩ := sign_parse (j := j) h2
    have h4' : isS sDot R' = true := h4
    refine ⟨acc ++ [row10 x], R'.tail, ?_, h5, by rw [List.map_append, List.map_cons, h3]; rfl⟩
    unfold bodyL
    have hn' : (acc.length == 4) = false := by simp at hn; simpa using (show ¬ acc.length = 4 by omega)
    rw [hn', Bool.and_false, cond_false, h1, bnd_ok, h4']; rfl
  | u :: l, d, q, k, R, acc, j, lt, hq, ho, hl, hn, hk, h => by
    obtain ⟨k, rfl⟩ : ∃ z, k = z + 1 := ⟨k - 1, by simp at hk; omega⟩
    simp only [List.length_cons] at hn hk
    have e : bodyToks q (u :: l) ++ lt = tk 44 :: (litToks u ++ (bodyToks (q + 1) l ++ lt)) := by
      show (bif decide (0 < q) then [tk 44] else []) ++ (litToks u ++ bodyToks (q + 1) l) ++ lt = _
      rw [decide_eq_true hq]
      simp only [cond_true, List.cons_append, List.nil_append, List.append_assoc]
    rw [e] at h
    obtain ⟨x, R', h1, h2, h3⟩ := litP_parse (j := j) ho h
    obtain ⟨_, h4, h5⟩ := sign_parse (j := j) h2
    have h4c : mustP sComma j R' = .ok ((), R'.tail) := h4
    have hD : isS sDot R' = false := not_sign h2 (.inl (by decide))
    obtain ⟨a, R'', g1, g2, g3⟩ := bodyL_parse l u (q + 1) k R'.tail (acc ++ [row10 x]) j lt (by omega) (hl u List.mem_cons_self) (fun v hv => hl v (List.mem_cons_of_mem _ hv)) (by simp; omega) (by omega) h5
    refine ⟨a, R'', ?_, g2, by rw [g3, List.map_append, List.map_cons, h3, List.append_assoc]; rfl⟩
    have hn' : (acc.length == 4) = false := by simpa using (show ¬ acc.length = 4 by omega)
    rw [← g1]
    conv => lhs; unfold bodyL
    rw [hn', Bool.and_false, cond_false, h1, bnd_ok, hD, cond_false, h4c, bnd_ok]
theorem ruleP_parse {d : RuleD} (hd : OkR d) {R : Rows} {j : Int} {lt : List Tok} (h : R.map tokOf = ruleToks d ++ lt) : ∃ x R', ruleP j R = .ok (x, R') ∧ R'.map tokOf = lt ∧ ruleD (row11 x) = d := by
  obtain ⟨home, p, args, to', body⟩ := d
  unfold ruleToks atomToks at h
  simp only [List.cons_append, List.append_assoc] at h
  obtain ⟨h1, h2, _, _⟩ := term_parse (j := j) hd.home h
  obtain ⟨_, h3, h4⟩ := sign_parse (j := j) h2
  have h3' : mustP sColon j R.tail = .ok ((), R.tail.tail) := h3
  obtain ⟨h5, h6, _⟩ := word_parse (j := j) hd.word h4
  obtain ⟨a, R1, h7, h8, h9⟩ := argsP_parse (j := j) hd.args hd.len h6
  unfold ruleP
  rw [h1, bnd_ok, h3', bnd_ok, h5, bnd_ok, h7, bnd_ok]
  have hbody : ∀ (t : Tm) (R2 : Rows), R2.map tokOf = (5, ByteArray.mk #[58, 45], 0) :: (bodyToks 0 body ++ lt) → ∃ x R', ruleB (t4 home) p a (t4 t) j R2 = .ok (x, R') ∧ R'.map tokOf = lt ∧ ruleD (row11 x) = (home, p, args, t, body) := fun t R2 hR2 => by
    obtain ⟨_, k1, k2⟩ := sign_parse (j := j) hR2
    have k1' : mustP sIf j R2 = .ok ((), R2.tail) := k1
    unfold ruleB
    rw [k1', bnd_ok]
    cases body with
    | nil => exact absurd hd.some_ (by simp)
    | cons b body =>
      have k2' : R2.tail.map tokOf = litToks b ++ (bodyToks 1 body ++ lt) := by
        rw [k2]
        show (litToks b ++ bodyToks 1 body) ++ lt = _
        rw [List.append_assoc]
      have hf := hd.few
      obtain ⟨bs, R3, g1, g2, g3⟩ := bodyL_parse body b 1 5 R2.tail [] j lt (by omega) (hd.body b List.mem_cons_self) (fun v hv => hd.body v (List.mem_cons_of_mem _ hv)) (by simp only [List.length_cons, List.length_nil] at *; omega) (by simp only [List.length_cons] at *; omega) k2'
      rw [g1, bnd_ok]
      refine ⟨_, R3, rfl, g2, ?_⟩
      unfold ruleD mkR
      show (home, p, tms a, t, bs.map litD) = _
      rw [h9, g3]; rfl
  cases hnt : nilT to' with
  | true =>
    have e0 := nilT_eq hnt
    have h8' : R1.map tokOf = (5, ByteArray.mk #[58, 45], 0) :: (bodyToks 0 body ++ lt) := by rw [h8]; unfold atToks; rw [hnt]; rfl
    have hs : isS sTo R1 = false := not_sign h8' (.inl (by decide))
    rw [hs, cond_false, e0]
    exact hbody (noB, false, 0, noB) R1 h8'
  | false =>
    have h8' : R1.map tokOf = tkW kwTo :: (tokT to' :: ((5, ByteArray.mk #[58, 45], 0) :: (bodyToks 0 body ++ lt))) := by rw [h8]; unfold atToks; rw [hnt]; rfl
    obtain ⟨k1, _, k3⟩ := kw_parse (j := j) (s := kwTo) rfl h8'
    have k1' : isS sTo R1 = true := k1
    obtain ⟨m1, m2, _, _⟩ := term_parse (j := j) (okM_nil hd.to_ hnt) k3
    rw [k1', cond_true, m1, bnd_ok]
    exact hbody to' R1.tail.tail m2
theorem toks_ne {d : RuleD} {lt : List Tok} {R : Rows} (h : R.map tokOf = ruleToks d ++ lt) : R.isEmpty = false := by
  cases R with
  | nil => unfold ruleToks at h; cases h
  | cons r R => rfl
theorem progL_parse : ∀ (l : List RuleD) (k : Nat) (R acc : Rows) (j : Int), (∀ d ∈ l, OkR d) → acc.length + l.length ≤ 16 → l.length < k → R.map tokOf = progToks l → ∃ a, progL k j R acc = .ok a ∧ a.map ruleD = acc.map ruleD ++ l
  | [], k, R, acc, j, _, hn, hk, h => by
    obtain ⟨k, rfl⟩ : ∃ z, k = z + 1 := ⟨k - 1, by simp at hk; omega⟩
    have hR : R = [] := by cases R with | nil => rfl | cons r R => cases h
    subst hR
    exact ⟨acc, rfl, by simp⟩
  | d :: l, k, R, acc, j, hl, hn, hk, h => by
    obtain ⟨k, rfl⟩ : ∃ z, k = z + 1 := ⟨k - 1, by simp at hk; omega⟩
    simp only [List.length_cons] at hn hk
    have h' : R.map tokOf = ruleToks d ++ progToks l := h
    obtain ⟨x, R', h1, h2, h3⟩ := ruleP_parse (j := j) (hl d List.mem_cons_self) h'
    obtain ⟨a, g1, g2⟩ := progL_parse l k R' (acc ++ [row11 x]) j (fun v hv => hl v (List.mem_cons_of_mem _ hv)) (by simp; omega) (by omega) h2
    refine ⟨a, ?_, by rw [g2, List.map_append, List.map_cons, h3, List.append_assoc]; rfl⟩
    have hn' : (acc.length == 16) = false := by simpa using (show ¬ acc.length = 16 by omega)
    unfold progL
    rw [toks_ne h', cond_false, hn', Bool.and_false, cond_false, h1]
    exact g1
end Go.Den
