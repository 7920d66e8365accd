import Derived.Test.YtlpnccpagikioaaGreatDoorZ34
set_option linter.unusedVariables false
set_option linter.unusedSimpArgs false
set_option linter.unusedSectionVars false
namespace Go.Den
open Go.Proofs
theorem term1_var {w : ByteArray} (h : namedS isGreat w = true) : term1 (w, false, 0, noB) = some w := by
  have h1 : 1 ≤ w.size := by unfold namedS at h; simp only [Bool.and_eq_true, decide_eq_true_eq] at h; exact h.1
  unfold term1 termS
  simp only [show (w == noB) = false from quote_ne h1, Bool.not_false, cond_true, h]
  rfl
theorem term1_num (z : Int) : term1 (noB, true, z, noB) = some ⟨(Go.Lib.itoa z).toArray⟩ := rfl
theorem term1_plain {x : ByteArray} (hp : plainS x = true) (h1 : 1 ≤ x.size) (h2 : x.size ≤ 32) : okT (noB, false, 0, x) := by
  unfold okT term1 termS shownS
  simp only [beq_self_eq_true, Bool.not_true, cond_false, Bool.true_and, hp, decide_eq_true h1, decide_eq_true h2, Bool.and_self, cond_true]
  cases (namedS isSmall x && !keptS x) with
  | true => exact ⟨_, rfl⟩
  | false => exact ⟨_, rfl⟩
theorem size_pos {x : ByteArray} (h : (x == noB) = false) : 1 ≤ x.size := by
  rw [size_zero] at h
  have := of_decide_eq_false h
  omega
theorem term_good {j : Int} {R R' : Rows} {v : T4} (h : termP j R = .ok (v, R')) (hg : GoodR R) : ∃ t, v = t4 t ∧ okT t ∧ Bnd t ∧ GoodR R' := by
  unfold termP at h
  cases hb : beg R with
  | false => rw [hb] at h; cases h
  | true =>
    rw [hb] at h
    cases h
    have hk : kd R ≠ 0 := fun h0 => by unfold beg at hb; rw [h0] at hb; cases hb
    obtain ⟨r, R1, rfl, hr, e1, e2, e3⟩ := kd_good hg hk
    have hz : Bnd (noB, true, nm (r :: R1), noB) := ⟨by rw [e3]; exact hr.num.1, by rw [e3]; exact hr.num.2⟩
    unfold tval
    unfold beg at hb
    rw [e1] at hb ⊢
    cases h2 : Row.I r 0 == 2 with
    | true =>
      have h2' : Row.I r 0 = 2 := eq_of_beq h2
      exact ⟨(Den.tx (r :: R1), false, 0, noB), rfl, ⟨_, term1_var (by rw [e2]; exact hr.great h2')⟩, ⟨by show (_ : Int) ≤ 0; omega, by show (0 : Int) ≤ _; omega⟩, hg.tail⟩
    | false =>
    cases h3 : Row.I r 0 == 3 with
    | true => exact ⟨(noB, true, nm (r :: R1), noB), rfl, ⟨_, term1_num _⟩, hz, hg.tail⟩
    | false =>
    rw [h2, h3] at hb
    refine ⟨(noB, false, 0, Den.tx (r :: R1)), rfl, ?_, ⟨by show (_ : Int) ≤ 0; omega, by show (0 : Int) ≤ _; omega⟩, hg.tail⟩
    cases h1 : Row.I r 0 == 1 with
    | true =>
      have h1' : Row.I r 0 = 1 := eq_of_beq h1
      rw [h1] at hb
      have h4 : (Row.I r 0 == 4) = false := by rw [h1']; rfl
      rw [h4] at hb
      simp only [Bool.false_or, Bool.true_and, Bool.false_and, Bool.or_false, Bool.not_eq_true'] at hb
      refine ⟨_, termS_word ?_⟩
      unfold wordS
      rw [← kept_eq, hb, e2, hr.small h1']; rfl
    | false =>
      rw [h1] at hb
      simp only [Bool.false_or, Bool.false_and, Bool.and_eq_true, Bool.not_eq_true', beq_iff_eq] at hb
      have hq := hr.quote hb.1
      rw [← e2] at hq
      exact term1_plain hq.1 (size_pos hb.2) hq.2
theorem must_good {s : ByteArray} {j : Int} {R R' : Rows} {v : Unit} (h : mustP s j R = .ok (v, R')) (hg : GoodR R) : GoodR R' := by
  unfold mustP at h
  cases hb : isS s R with
  | false => rw [hb] at h; cases h
  | true => rw [hb] at h; cases h; exact hg.tail
theorem word_good {j : Int} {R R' : Rows} {p : ByteArray} (h : wordP j R = .ok (p, R')) (hg : GoodR R) : wordS p = true ∧ GoodR R' := by
  unfold wordP at h
  cases hb : (kd R == 1 && !kept (Den.tx R)) with
  | false => rw [hb] at h; cases h
  | true =>
    rw [hb] at h
    cases h
    simp only [Bool.and_eq_true, beq_iff_eq, Bool.not_eq_true'] at hb
    obtain ⟨r, R1, rfl, hr, e1, e2, e3⟩ := kd_good hg (by rw [hb.1]; decide)
    refine ⟨?_, hg.tail⟩
    unfold wordS
    rw [← kept_eq, hb.2, e2, hr.small (by rw [← e1]; exact hb.1)]; rfl
theorem bnd_split {α β : Type} {x : Res α} {f : α → Rows → Res β} {v : β} {R' : Rows} (h : bnd x f = .ok (v, R')) : ∃ u R1, x = .ok (u, R1) ∧ f u R1 = .ok (v, R') := by
  rcases x with e | ⟨u, R1⟩
  · cases h
  · exact ⟨u, R1, rfl, h⟩
@[reducible] def GoodA (a : Rows) : Prop := ∀ t ∈ tms a, okT t ∧ Bnd t
theorem goodA_snoc {a : Rows} {t : Tm} (h : GoodA a) (ho : okT t) (hb : Bnd t) : GoodA (a ++ [row4 (t4 t)]) := by
  intro u hu
  have e : tms (a ++ [row4 (t4 t)]) = tms a ++ [t] := by unfold tms; rw [List.map_append]; rfl
  rw [e] at hu
  rcases List.mem_append.1 hu with hu | hu
  · exact h u hu
  · simp only [List.mem_singleton] at hu; subst hu; exact ⟨ho, hb⟩
theorem argsL_good : ∀ (k : Nat) (j : Int) (R acc a R' : Rows), argsL k j R acc = .ok (a, R') → GoodR R → GoodA acc → acc.length ≤ 4 → GoodA a ∧ a.length ≤ 4 ∧ GoodR R'
  | 0, j, R, acc, a, R', h, _, _, _ => by cases h
  | k + 1, j, R, acc, a, R', h, hg, ha, hl => by
    unfold argsL at h
    cases hc : (beg R && acc.length == 4) with
    | true => rw [hc] at h; cases h
    | false =>
      rw [hc] at h
      simp only [cond_false] at h
      obtain ⟨v, R1, h1, h2⟩ := bnd_split h
      obtain ⟨t, rfl, ho, hb, hg1⟩ := term_good h1 hg
      have hlt : acc.length ≠ 4 := fun e => by
        have hbg : beg R = true := by
          unfold termP at h1
          cases hb2 : beg R with
          | true => rfl
          | false => rw [hb2] at h1; cases h1
        rw [hbg, e] at hc; cases hc
      have hl' : (acc ++ [row4 (t4 t)]).length ≤ 4 := by simp; omega
      cases hs : isS sC R1 with
      | true =>
        rw [hs] at h2
        cases h2
        exact ⟨goodA_snoc ha ho hb, hl', hg1.tail⟩
      | false =>
        rw [hs] at h2
        simp only [cond_false] at h2
        obtain ⟨u, R2, h3, h4⟩ := bnd_split h2
        exact argsL_good k j R2 _ a R' h4 (must_good h3 hg1) (goodA_snoc ha ho hb) hl'
theorem argsP_good {j : Int} {R R' a : Rows} (h : argsP j R = .ok (a, R')) (hg : GoodR R) : GoodA a ∧ a.length ≤ 4 ∧ GoodR R' := by
  unfold argsP at h
  obtain ⟨u, R1, h1, h2⟩ := bnd_split h
  have hg1 := must_good h1 hg
  cases hs : isS sC R1 with
  | true =>
    rw [hs] at h2
    cases h2
    exact ⟨fun t ht => (by cases ht), Nat.zero_le _, hg1.tail⟩
  | false =>
    rw [hs] at h2
    exact argsL_good 5 j R1 [] a R' h2 hg1 (fun t ht => by cases ht) (Nat.zero_le _)
theorem okM_zero : okM (noB, false, 0, noB) := .inl rfl
theorem bnd_zero : Bnd (noB, false, 0, noB) := ⟨by show (_ : Int) ≤ 0; omega, by show (0 : Int) ≤ _; omega⟩
theorem litB_good {t : Tm} (ht : okM t) (hb : Bnd t) {j : Int} {R R' : Rows} {x : L10} (h : litB (t4 t) j R = .ok (x, R')) (hg : GoodR R) : OkL (litD (row10 x)) ∧ BndL (litD (row10 x)) ∧ GoodR R' := by
  unfold litB at h
  obtain ⟨p, R1, h1, h⟩ := bnd_split h
  obtain ⟨hw, hg1⟩ := word_good h1 hg
  obtain ⟨a, R2, h2, h⟩ := bnd_split h
  obtain ⟨ha, hl, hg2⟩ := argsP_good h2 hg1
  have hlt : (tms a).length ≤ 4 := by rw [tms_len]; exact hl
  cases hs : isS sAt R2 with
  | true =>
    rw [hs] at h
    simp only [cond_true] at h
    obtain ⟨v, R3, h3, h⟩ := bnd_split h
    obtain ⟨u, rfl, ho, hbu, hg3⟩ := term_good h3 hg2.tail
    cases h
    exact ⟨⟨ht, hw, hlt, fun q hq => (ha q hq).1, .inr ho⟩, ⟨hb, fun q hq => (ha q hq).2, hbu⟩, hg3⟩
  | false =>
    rw [hs] at h
    cases h
    exact ⟨⟨ht, hw, hlt, fun q hq => (ha q hq).1, okM_zero⟩, ⟨hb, fun q hq => (ha q hq).2, bnd_zero⟩, hg2⟩
theorem litP_good {j : Int} {R R' : Rows} {x : L10} (h : litP j R = .ok (x, R')) (hg : GoodR R) : OkL (litD (row10 x)) ∧ BndL (litD (row10 x)) ∧ GoodR R' := by
  unfold litP at h
  cases hc : (said R || kd R != 1) with
  | true =>
    rw [hc] at h
    simp only [cond_true] at h
    obtain ⟨v, R1, h1, h⟩ := bnd_split h
    obtain ⟨t, rfl, ho, hb, hg1⟩ := term_good h1 hg
    obtain ⟨u, R2, h2, h⟩ := bnd_split h
    exact litB_good (.inr ho) hb h (must_good h2 hg1)
  | false =>
    rw [hc] at h
    exact litB_good (t := (noB, false, 0, noB)) okM_zero bnd_zero h hg
@[reducible] def GoodB (b : Rows) : Prop := ∀ d ∈ b.map litD, OkL d ∧ BndL d
theorem bodyL_good : ∀ (k : Nat) (j : Int) (R acc a R' : Rows), bodyL k j R acc = .ok (a, R') → GoodR R → GoodB acc → acc.length ≤ 4 → GoodB a ∧ 1 ≤ a.length ∧ a.length ≤ 4 ∧ GoodR R'
  | 0, j, R, acc, a, R', h, _, _, _ => by cases h
  | k + 1, j, R, acc, a, R', h, hg, ha, hl => by
    unfold bodyL at h
    cases hc : (beg R && acc.length == 4) with
    | true => rw [hc] at h; cases h
    | false =>
      rw [hc] at h
      simp only [cond_false] at h
      obtain ⟨x, R1, h1, h2⟩ := bnd_split h
      obtain ⟨ho, hb, hg1⟩ := litP_good h1 hg
      have hlt : acc.length ≠ 4 := fun e => by
        cases hb2 : beg R with
        | true => rw [hb2, e] at hc; cases hc
        | false =>
          obtain ⟨e', he⟩ := litP_nb (j := j) hb2
          rw [he] at h1; cases h1
      have hl' : (acc ++ [row10 x]).length ≤ 4 := by simp; omega
      have hgb : GoodB (acc ++ [row10 x]) := fun d hd => by
        rw [List.map_append] at hd
        rcases List.mem_append.1 hd with hd | hd
        · exact ha d hd
        · simp only [List.map_cons, List.map_nil, List.mem_singleton] at hd; subst hd; exact ⟨ho, hb⟩
      cases hs : isS sDot R1 with
      | true =>
        rw [hs] at h2
        cases h2
        exact ⟨hgb, by simp, hl', hg1.tail⟩
      | false =>
        rw [hs] at h2
        simp only [cond_false] at h2
        obtain ⟨u, R2, h3, h4⟩ := bnd_split h2
        exact bodyL_good k j R2 _ a R' h4 (must_good h3 hg1) hgb hl'
theorem ruleB_good {home to' : Tm} {p : ByteArray} {a : Rows} (h1 : okT home) (h2 : Bnd home) (h3 : wordS p = true) (h4 : GoodA a) (h5 : a.length ≤ 4) (h6 : okM to') (h7 : Bnd to') {j : Int} {R R' : Rows} {x : R11}
    (h : ruleB (t4 home) p a (t4 to') j R = .ok (x, R')) (hg : GoodR R) : OkR (ruleD (row11 x)) ∧ BndR (ruleD (row11 x)) ∧ GoodR R' := by
  unfold ruleB at h
  obtain ⟨u, R1, k1, h⟩ := bnd_split h
  obtain ⟨b, R2, k2, h⟩ := bnd_split h
  cases h
  obtain ⟨g1, g2, g3, g4⟩ := bodyL_good 5 j R1 [] b R' k2 (must_good k1 hg) (fun d hd => by cases hd) (Nat.zero_le _)
  have hlt : (tms a).length ≤ 4 := by rw [tms_len]; exact h5
  have hlb : (b.map litD).length = b.length := List.length_map ..
  exact ⟨⟨h1, h3, hlt, fun q hq => (h4 q hq).1, h6, by show 1 ≤ (b.map litD).length; omega, by show (b.map litD).length ≤ 4; omega, fun d hd => (g1 d hd).1⟩, ⟨h2, fun q hq => (h4 q hq).2, h7, fun d hd => (g1 d hd).2⟩, g4⟩
theorem ruleP_good {j : Int} {R R' : Rows} {x : R11} (h : ruleP j R = .ok (x, R')) (hg : GoodR R) : OkR (ruleD (row11 x)) ∧ BndR (ruleD (row11 x)) ∧ GoodR R' := by
  unfold ruleP at h
  obtain ⟨v, R1, h1, h⟩ := bnd_split h
  obtain ⟨t, rfl, ho, hb, hg1⟩ := term_good h1 hg
  obtain ⟨u, R2, h2, h⟩ := bnd_split h
  have hg2 := must_good h2 hg1
  obtain ⟨p, R3, h3, h⟩ := bnd_split h
  obtain ⟨hw, hg3⟩ := word_good h3 hg2
  obtain ⟨a, R4, h4, h⟩ := bnd_split h
  obtain ⟨ha, hl, hg4⟩ := argsP_good h4 hg3
  cases hs : isS sTo R4 with
  | true =>
    rw [hs] at h
    simp only [cond_true] at h
    obtain ⟨w, R5, h5, h⟩ := bnd_split h
    obtain ⟨q, rfl, hqo, hqb, hg5⟩ := term_good h5 hg4.tail
    exact ruleB_good ho hb hw ha hl (.inr hqo) hqb h hg5
  | false =>
    rw [hs] at h
    exact ruleB_good (to' := (noB, false, 0, noB)) ho hb hw ha hl okM_zero bnd_zero h hg4
theorem progL_good : ∀ (k : Nat) (j : Int) (R acc l : Rows), progL k j R acc = .ok l → GoodR R → (∀ d ∈ acc.map ruleD, OkR d ∧ BndR d) → acc.length ≤ 16 → (∀ d ∈ l.map ruleD, OkR d ∧ BndR d) ∧ l.length ≤ 16
  | 0, j, R, acc, l, h, _, _, _ => by cases h
  | k + 1, j, R, acc, l, h, hg, ha, hl => by
    unfold progL at h
    cases he : R.isEmpty with
    | true => rw [he] at h; cases h; exact ⟨ha, hl⟩
    | false =>
      rw [he] at h
      simp only [cond_false] at h
      cases hc : (beg R && acc.length == 16) with
      | true => rw [hc] at h; cases h
      | false =>
        rw [hc] at h
        simp only [cond_false] at h
        split at h
        · rename_i x R1 hx
          obtain ⟨g1, g2, g3⟩ := ruleP_good hx hg
          have hlt : acc.length ≠ 16 := fun e => by
            cases hb2 : beg R with
            | true => rw [hb2, e] at hc; cases hc
            | false =>
              obtain ⟨e', he⟩ := ruleP_nb (j := j) hb2
              rw [he] at hx; cases hx
          refine progL_good k j R1 _ l h g3 (fun d hd => ?_) (by simp; omega)
          rw [List.map_append] at hd
          rcases List.mem_append.1 hd with hd | hd
          · exact ha d hd
          · simp only [List.map_cons, List.map_nil, List.mem_singleton] at hd; subst hd; exact ⟨g1, g2⟩
        · cases h
theorem parseE_good {s : ByteArray} {l : Rows} (h : parseE s = .ok l) : (∀ d ∈ l.map ruleD, OkR d ∧ BndR d) ∧ l.length ≤ 16 := by
  unfold parseE at h
  split at h
  · rename_i m hm
    exact progL_good 17 _ m [] l h (tokensE_good hm) (fun d hd => by cases hd) (Nat.zero_le _)
  · cases h
theorem tmOk_of {t : Tm} {n : Nat} (hn : 10000 < n) (ho : okM t) (hb : Bnd t) : TmOk n t := by
  have hs : t.2.2.2.size ≤ 32 := by
    rcases ho with h | ⟨s, h⟩
    · rw [nilT_eq h]; exact Nat.zero_le _
    · rcases term1_cases h with ⟨w, rfl, h1, rfl, h2⟩ | ⟨z, rfl, rfl, h2⟩ | ⟨x, rfl, h1, rfl, h2⟩ | ⟨x, rfl, h0, h1, h3, h4, rfl, h2⟩
      · exact Nat.zero_le _
      · exact Nat.zero_le _
      · unfold wordS namedS at h1
        simp only [Bool.and_eq_true, decide_eq_true_eq] at h1
        exact h1.1.2.1
      · exact h4
  exact ⟨hb.lo, hb.hi, by omega, by omega⟩
theorem word_size {p : ByteArray} (h : wordS p = true) : p.size ≤ 5000 := by
  unfold wordS namedS at h
  simp only [Bool.and_eq_true, decide_eq_true_eq] at h
  omega
theorem litOk_of {l : Row} {n : Nat} (hn : 10000 < n) (ho : OkL (litD l)) (hb : BndL (litD l)) : LitOk n l := by
  have hl : (tms (Row.R l 5)).length ≤ 4 := ho.len
  rw [tms_len] at hl
  exact ⟨tmOk_of hn ho.by_ hb.by_, word_size ho.word, by omega, fun r hr => tmOk_of hn (.inr (ho.args _ (List.mem_map.2 ⟨r, hr, rfl⟩))) (hb.args _ (List.mem_map.2 ⟨r, hr, rfl⟩)), tmOk_of hn ho.at_ hb.at_⟩
theorem ruleOk_of {r : Row} {n : Nat} (hn : 10000 < n) (ho : OkR (ruleD r)) (hb : BndR (ruleD r)) : RuleOk n r := by
  have hl : (tms (Row.R r 5)).length ≤ 4 := ho.len
  rw [tms_len] at hl
  have hl2 : ((Row.R r 10).map litD).length ≤ 4 := ho.few
  rw [List.length_map] at hl2
  exact ⟨tmOk_of hn (.inr ho.home) hb.home, word_size ho.word, by omega, fun a ha => tmOk_of hn (.inr (ho.args _ (List.mem_map.2 ⟨a, ha, rfl⟩))) (hb.args _ (List.mem_map.2 ⟨a, ha, rfl⟩)), tmOk_of hn ho.to_ hb.to_, by omega,
    fun l hl => litOk_of hn (ho.body _ (List.mem_map.2 ⟨l, hl, rfl⟩)) (hb.body _ (List.mem_map.2 ⟨l, hl, rfl⟩))⟩
end Go.Den
