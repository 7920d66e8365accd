import Derived.Test.YtlpnccpagikioaaDoorZ34
set_option linter.unusedVariables false
set_option linter.unusedSimpArgs false
set_option linter.unusedSectionVars false
/- ShowBack, ShowAgain, ShowApart. -/
namespace Go.Den
open Go.Proofs
theorem progO_cases (l : Rows) : (∃ e, progO l = ((noB, (e, ())), ()) ∧ (e = 81 ∧ l.length > 16 ∨ e = 100 ∧ progR l noB = none ∨ e = 3 ∧ l.length ≤ 16)) ∨ (∃ s, progO l = ((s, (0, ())), ()) ∧ progR l noB = some s ∧ s.size ≤ 4096 ∧ l.length ≤ 16) := by
  unfold progO
  by_cases h1 : l.length > 16
  · rw [decide_eq_true h1]
    exact .inl ⟨81, rfl, .inl ⟨rfl, h1⟩⟩
  · rw [decide_eq_false h1]
    simp only [cond_false]
    cases hp : progR l noB with
    | none => exact .inl ⟨100, rfl, .inr (.inl ⟨rfl, rfl⟩)⟩
    | some s =>
      simp only
      by_cases h2 : s.size > 4096
      · rw [decide_eq_true h2]; exact .inl ⟨3, rfl, .inr (.inr ⟨rfl, by omega⟩)⟩
      · rw [decide_eq_false h2]; exact .inr ⟨s, rfl, rfl, by omega, by omega⟩
theorem law09_ShowBack_pure (b0 : Bool) (r1 : Rows) (h : Fsl b0 kR r1) : ∃ n, law09_ShowBack_v n b0 r1 = some (true, ()) := by
  refine ⟨bigN, ?_⟩
  have hN := bigN_big
  have hlv := live9_at (n := bigN) (by omega)
  rw [law09_ShowBack_e, weight5_q (by omega) (by omega) h.2.2.1 h.1 (fun r hr => bigN_lt (fineR (rowsFine_mem h.2.2.1 hr)).2.2.1) (bigN_lt h.1), hlv]
  simp only [obind_some]
  by_cases hw : weight5 300 r1 0 > 300
  · simp only [hw, decide_true, cond_true]
  · simp only [hw, decide_false, cond_false]
    have hok := rulesOk h.2.2.1 (by omega)
    rw [show_Program_q hN hok.ok]
    simp only [obind_some]
    rcases progO_cases r1 with ⟨e, he, hc⟩ | ⟨s, hs, hp, hsz, hl⟩
    · rw [he]
      have : (e != 0) = true := by rcases hc with ⟨rfl, _⟩ | ⟨rfl, _⟩ | ⟨rfl, _⟩ <;> rfl
      simp only [this, cond_true, beq_self_eq_true]
    · rw [hs]
      simp only [bne_self_eq_false, cond_false]
      obtain ⟨m, h1, h2⟩ := parse_shown hl hok.ok hp hsz
      have hb : 1000000 ≤ big := by unfold big; omega
      have hml : m.length ≤ 16 := by have := congrArg List.length h2; simp only [List.length_map] at this; omega
      have hmok := RulesOk.data h2.symm hok.ok
      rw [program_pq (by omega) s, h1]
      simp only [obind_some, encG, beq_self_eq_true, cond_true]
      rw [Like_qd (by omega) (by omega) (fun a ha => small_rule hN (hmok a ha)), decide_eq_true h2]
      simp only [obind_some, cond_true]
/-! what is wrong has a number -/
@[reducible] def E8 (p : Int × Int × Rows) : Prop := (p.2.1 != 0) = true
theorem bnd_err {α β : Type} {x : Res α} {f : α → Rows → Res β} {p : Int × Int × Rows} (h : bnd x f = .error p) : x = .error p ∨ ∃ u R1, x = .ok (u, R1) ∧ f u R1 = .error p := by
  rcases x with e | ⟨u, R1⟩
  · cases h; exact .inl rfl
  · exact .inr ⟨u, R1, rfl, h⟩
theorem term_e {j : Int} {R : Rows} {p : Int × Int × Rows} (h : termP j R = .error p) : E8 p := by
  unfold termP at h
  cases hb : beg R <;> rw [hb] at h <;> cases h; rfl
theorem must_e {s : ByteArray} {j : Int} {R : Rows} {p : Int × Int × Rows} (h : mustP s j R = .error p) : E8 p := by
  unfold mustP at h
  cases hb : isS s R <;> rw [hb] at h <;> cases h; rfl
theorem word_e {j : Int} {R : Rows} {p : Int × Int × Rows} (h : wordP j R = .error p) : E8 p := by
  unfold wordP at h
  cases hb : (kd R == 1 && !kept (Den.tx R)) <;> rw [hb] at h <;> cases h; rfl
theorem argsL_e : ∀ (k : Nat) (j : Int) (R acc : Rows) (p : Int × Int × Rows), argsL k j R acc = .error p → E8 p
  | 0, j, R, acc, p, h => by cases h; rfl
  | k + 1, j, R, acc, p, h => by
    unfold argsL at h
    cases hc : (beg R && acc.length == 4) with
    | true => rw [hc] at h; cases h; rfl
    | false =>
      rw [hc] at h
      simp only [cond_false] at h
      rcases bnd_err h with h | ⟨u, R1, _, h⟩
      · exact term_e h
      · cases hs : isS sC R1 with
        | true => rw [hs] at h; cases h
        | false =>
          rw [hs] at h
          simp only [cond_false] at h
          rcases bnd_err h with h | ⟨u, R1, _, h⟩
          · exact must_e h
          · exact argsL_e k j _ _ p h
theorem args_e {j : Int} {R : Rows} {p : Int × Int × Rows} (h : argsP j R = .error p) : E8 p := by
  unfold argsP at h
  rcases bnd_err h with h | ⟨u, R1, _, h⟩
  · exact must_e h
  · cases hs : isS sC R1 with
    | true => rw [hs] at h; cases h
    | false => rw [hs] at h; exact argsL_e 5 j R1 [] p h
theorem litB_e {t : T4} {j : Int} {R : Rows} {p : Int × Int × Rows} (h : litB t j R = .error p) : E8 p := by
  unfold litB at h
  rcases bnd_err h with h | ⟨u, R1, _, h⟩
  · exact word_e h
  · rcases bnd_err h with h | ⟨u, R1, _, h⟩
    · exact args_e h
    · cases hs : isS sAt R1 with
      | true =>
        rw [hs] at h
        simp only [cond_true] at h
        rcases bnd_err h with h | ⟨u, R1, _, h⟩
        · exact term_e h
        · cases h
      | false => rw [hs] at h; cases h
theorem litP_e {j : Int} {R : Rows} {p : Int × Int × Rows} (h : litP j R = .error p) : E8 p := by
  unfold litP at h
  cases hc : (said R || kd R != 1) with
  | true =>
    rw [hc] at h
    simp only [cond_true] at h
    rcases bnd_err h with h | ⟨u, R1, _, h⟩
    · exact term_e h
    · rcases bnd_err h with h | ⟨u, R1, _, h⟩
      · exact must_e h
      · exact litB_e h
  | false => rw [hc] at h; exact litB_e h
theorem bodyL_e : ∀ (k : Nat) (j : Int) (R acc : Rows) (p : Int × Int × Rows), bodyL k j R acc = .error p → E8 p
  | 0, j, R, acc, p, h => by cases h; rfl
  | k + 1, j, R, acc, p, h => by
    unfold bodyL at h
    cases hc : (beg R && acc.length == 4) with
    | true => rw [hc] at h; cases h; rfl
    | false =>
      rw [hc] at h
      simp only [cond_false] at h
      rcases bnd_err h with h | ⟨u, R1, _, h⟩
      · exact litP_e h
      · cases hs : isS sDot R1 with
        | true => rw [hs] at h; cases h
        | false =>
          rw [hs] at h
          simp only [cond_false] at h
          rcases bnd_err h with h | ⟨u, R1, _, h⟩
          · exact must_e h
          · exact bodyL_e k j _ _ p h
theorem ruleB_e {t : T4} {pr : ByteArray} {a : Rows} {q : T4} {j : Int} {R : Rows} {p : Int × Int × Rows} (h : ruleB t pr a q j R = .error p) : E8 p := by
  unfold ruleB at h
  rcases bnd_err h with h | ⟨u, R1, _, h⟩
  · exact must_e h
  · rcases bnd_err h with h | ⟨u, R1, _, h⟩
    · exact bodyL_e 5 j _ _ p h
    · cases h
theorem ruleP_e {j : Int} {R : Rows} {p : Int × Int × Rows} (h : ruleP j R = .error p) : E8 p := by
  unfold ruleP at h
  rcases bnd_err h with h | ⟨u, R1, _, h⟩
  · exact term_e h
  rcases bnd_err h with h | ⟨u, R1, _, h⟩
  · exact must_e h
  rcases bnd_err h with h | ⟨u, R1, _, h⟩
  · exact word_e h
  rcases bnd_err h with h | ⟨u, R1, _, h⟩
  · exact args_e h
  cases hs : isS sTo R1 with
  | true =>
    rw [hs] at h
    simp only [cond_true] at h
    rcases bnd_err h with h | ⟨u, R1, _, h⟩
    · exact term_e h
    · exact ruleB_e h
  | false => rw [hs] at h; exact ruleB_e h
theorem progL_err : ∀ (k : Nat) (j : Int) (R acc : Rows) (p : Int × Int), progL k j R acc = .error p → (p.2 != 0) = true
  | 0, j, R, acc, p, h => by cases h; rfl
  | k + 1, j, R, acc, p, h => by
    unfold progL at h
    cases he : R.isEmpty with
    | true => rw [he] at h; cases h
    | false =>
      rw [he] at h
      simp only [cond_false] at h
      cases hc : (beg R && acc.length == 16) with
      | true => rw [hc] at h; cases h; rfl
      | false =>
        rw [hc] at h
        simp only [cond_false] at h
        split at h
        · exact progL_err k j _ _ p h
        · rename_i a e R' hx
          cases h
          exact ruleP_e hx
theorem encG_err {a e : Int} : encG (.error (a, e)) = (((true, []), a, e, ()), ()) := rfl
theorem parseE_err {s : ByteArray} {p : Int × Int} (h : parseE s = .error p) : (p.2 != 0) = true := by
  unfold parseE at h
  split at h
  · rename_i l hl
    exact progL_err 17 _ l [] _ h
  · rename_i q hq
    cases h
    exact tokensE_err hq
theorem law09_ShowAgain_pure (s0 : ByteArray) (h : s0.size ≤ reachBytes) : ∃ n, law09_ShowAgain_v n s0 = some (true, ()) := by
  refine ⟨bigN, ?_⟩
  have hN := bigN_big
  have hlv := live9_at (n := bigN) (by omega)
  rw [law09_ShowAgain_e, program_pq (by omega) s0, hlv]
  rcases hp : parseE s0 with ⟨a, e⟩ | l
  · have := parseE_err hp
    simp only [obind_some, encG]
    have h' : (e != 0) = true := this
    simp only [h', cond_true]
  · simp only [obind_some, encG, bne_self_eq_false, cond_false]
    obtain ⟨hg, hl⟩ := parseE_good hp
    have hok : ∀ r ∈ l, RuleOk bigN r := fun r hr => by
      have := hg _ (List.mem_map.2 ⟨r, hr, rfl⟩)
      exact ruleOk_of hN this.1 this.2
    rw [show_Program_q hN hok]
    simp only [obind_some]
    rcases progO_cases l with ⟨e, he, hc⟩ | ⟨s, hs, hps, hsz, hl⟩
    · rw [he]
      have h3 : e = 3 := by
        rcases hc with ⟨_, h1⟩ | ⟨_, h1⟩ | ⟨h1, _⟩
        · omega
        · exfalso
          obtain ⟨s, hs⟩ := progR_some l noB (fun r hr => (ruleR_ok r).2 (hg _ (List.mem_map.2 ⟨r, hr, rfl⟩)).1)
          rw [h1] at hs; cases hs
        · exact h1
      subst h3
      rfl
    · rw [hs]
      simp only [bne_self_eq_false, cond_false]
      obtain ⟨m, h1, h2⟩ := parse_shown hl hok hps hsz
      have hb : 1000000 ≤ big := by unfold big; omega
      have hmok := RulesOk.data h2.symm hok
      rw [program_pq (by omega) s, h1]
      simp only [obind_some, encG]
      rw [show_Program_q hN hmok, progO_data h2, hs]
      simp only [obind_some, beq_self_eq_true, cond_true]
      rw [Like_qd (by omega) (by omega) (fun a ha => small_rule hN (hok a ha)), decide_eq_true h2.symm]
      simp only [obind_some, cond_true]
end Go.Den
