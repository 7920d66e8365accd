import Derived.Test.YtlpnccpagikioaaDoorDen5
import Derived.Laws.StructEq
set_option linter.unusedVariables false
set_option linter.unusedSimpArgs false
set_option linter.unusedSectionVars false
/- Comparisons and arithmetic are sound. -/
namespace Go.Den
variable {x : X} {w : World} {P : Program}

theorem eqK_split : ∀ {k1 k2 : List Kd} {l l' : List AV} {r : Bool}, eqK (k1 ++ k2) l l' = some r → ∃ r1 r2, eqK k1 (l.take k1.length) (l'.take k1.length) = some r1 ∧ eqK k2 (l.drop k1.length) (l'.drop k1.length) = some r2 ∧ r = (r1 && r2)
  | [], k2, l, l', r, h => ⟨true, r, by simp [eqK], by simpa using h, by simp⟩
  | k :: k1, k2, l, l', r, h => by
    simp only [List.cons_append] at h
    unfold eqK at h
    split at h <;> try (cases h; done)
    all_goals
      rename_i heq
    · cases heq
    · cases heq
      split at h
      · rename_i r0 hr0
        obtain ⟨r1, r2, h1, h2, h3⟩ := eqK_split hr0
        cases h
        exact ⟨_, r2, by simp only [List.length_cons, List.take_succ_cons, eqK, h1]; rfl, by simpa using h2, by rw [h3, Bool.and_assoc]⟩
      · cases h
    · cases heq
      split at h
      · rename_i e1
        split at h
        · rename_i e2
          split at h
          · rename_i r0 hr0
            obtain ⟨r1, r2, h1, h2, h3⟩ := eqK_split hr0
            cases h
            exact ⟨_, r2, by simp only [List.length_cons, List.take_succ_cons, eqK, h1, if_pos e1, if_pos e2]; rfl, by simpa using h2, by rw [h3, Bool.and_assoc]⟩
          · cases h
        · cases h
      · cases h
    · cases heq
      split at h
      · rename_i r0 hr0
        obtain ⟨r1, r2, h1, h2, h3⟩ := eqK_split hr0
        cases h
        exact ⟨_, r2, by simp only [List.length_cons, List.take_succ_cons, eqK, h1]; rfl, by simpa using h2, by rw [h3, Bool.and_assoc]⟩
      · cases h

theorem run_partAgg {t : TypeId} {n : Nat} (ha : agg? P t = some true) (hn : size? P t = some n) (cs : Array Value) (off : Nat) : (part t cs off).run P w = .ok (.agg (cs.extract off (off + n))) w := by
  simp [part, run_agg ha, run_size hn]
theorem run_partOne {t : TypeId} (ha : agg? P t = some false) (cs : Array Value) (off : Nat) {v : Value} (hv : cs[off]? = some v) : (part t cs off).run P w = .ok v w := by
  simp [part, run_agg ha, hv]

theorem RepL.getElem {l : List AV} {vs : List Value} (h : RepL x l vs) {j : Nat} {a : AV} (ha : l[j]? = some a) : ∃ v, vs[j]? = some v ∧ Rep x a v := h.get ha

/-- What '==' says of values of a plain type. -/
def EqSays (P : Program) (x : X) (w : World) (d : Nat) (t : TypeId) (ks : List Kd) : Prop :=
  (agg? P t = some false → ∀ (a b : AV) (u v : Value) (r : Bool), eqK ks [a] [b] = some r → Rep x a u → Rep x b v → (Op.equalIn d t u v).run P w = .ok r w) ∧
  (agg? P t = some true → ∀ (l l' : List AV) (us vs : Array Value) (r : Bool), eqK ks l l' = some r → RepL x l us.toList → RepL x l' vs.toList → (Op.equalIn d t (.agg us) (.agg vs)).run P w = .ok r w)

theorem agg_struct {t : TypeId} {fs : Array Field} (h : P.underlying t = some (.struct fs)) : agg? P t = some true := by unfold agg?; rw [h]

theorem eqK_length : ∀ {ks : List Kd} {l l' : List AV} {r : Bool}, eqK ks l l' = some r → l.length = ks.length ∧ l'.length = ks.length
  | [], l, l', r, h => by
    unfold eqK at h; split at h <;> try (cases h; done)
    all_goals first | exact ⟨rfl, rfl⟩ | (rename_i heq; cases heq)
  | k :: ks, l, l', r, h => by
    unfold eqK at h; split at h <;> try (cases h; done)
    all_goals rename_i heq
    · cases heq
    · cases heq; split at h
      · rename_i h1; have := eqK_length h1; simp [this.1, this.2]
      · cases h
    · cases heq; split at h
      · split at h
        · split at h
          · rename_i h1; have := eqK_length h1; simp [this.1, this.2]
          · cases h
        · cases h
      · cases h
    · cases heq; split at h
      · rename_i h1; have := eqK_length h1; simp [this.1, this.2]
      · cases h

theorem eqK_nil {l l' : List AV} {r : Bool} (h : eqK [] l l' = some r) : r = true := by
  have := eqK_length h
  simp only [List.length_nil, List.length_eq_zero_iff] at this
  obtain ⟨rfl, rfl⟩ := this
  simpa [eqK] using h.symm
theorem take_one {l : List AV} {off : Nat} (h : ((l.drop off).take 1).length = 1) : ∃ a, (l.drop off).take 1 = [a] ∧ l[off]? = some a := by
  cases hd : l.drop off with
  | nil => rw [hd] at h; simp at h
  | cons a t =>
    refine ⟨a, by simp, ?_⟩
    have := congrArg (fun l : List AV => l[0]?) hd
    simpa using this

theorem plainFields_sound {g : TypeId → Option (List Kd)} {d : Nat} (hg : ∀ t ks, g t = some ks → EqSays P x w d t ks ∧ ∃ b, agg? P t = some b ∧ (b = false → ks.length = 1)) :
    ∀ {fs : List Field} {off : Nat} {ks : List Kd}, plainFields P g off fs = some ks → ∀ {l l' : List AV} {us vs : Array Value} {r : Bool}, eqK ks (l.drop off) (l'.drop off) = some r → off ≤ l.length → off ≤ l'.length →
      RepL x l us.toList → RepL x l' vs.toList → (Op.eqFields d us vs fs).run P w = .ok r w
  | [], off, ks, h, l, l', us, vs, r, hr, _, _, _, _ => by
    simp only [plainFields, Option.some.injEq] at h; subst h
    rw [eqK_nil hr]; simp [Op.eqFields]
  | f :: fs, off, ks, h, l, l', us, vs, r, hr, ho, ho', hl, hl' => by
    simp only [plainFields] at h
    split at h
    · rename_i hname
      simp only [Bool.and_eq_true, beq_eq] at hname
      obtain ⟨hn, hoff⟩ := hname
      split at h
      · rename_i kf hkf
        split at h
        · rename_i n rest hsz hrest
          split at h
          · rename_i hnk
            simp only [beq_eq] at hnk
            cases h
            obtain ⟨r1, r2, h1, h2, rfl⟩ := eqK_split hr
            obtain ⟨⟨q1, q2⟩, b, hb, hb1⟩ := hg _ _ hkf
            have hlen := eqK_length h1
            simp only [List.length_take, List.length_drop] at hlen
            have hne : f.name ≠ "_" := by simpa using hn
            have ih := plainFields_sound hg hrest (l := l) (l' := l') (us := us) (vs := vs) (r := r2) (by rw [List.drop_drop, List.drop_drop] at h2; exact h2) (by omega) (by omega) hl hl'
            have heq : ∃ u v, (part f.type us f.offset).run P w = .ok u w ∧ (part f.type vs f.offset).run P w = .ok v w ∧ (Op.equalIn d f.type u v).run P w = .ok r1 w := by
              rw [hoff]
              cases b with
              | true =>
                refine ⟨_, _, run_partAgg hb hsz us off, run_partAgg hb hsz vs off, ?_⟩
                refine q2 hb _ _ _ _ r1 h1 ?_ ?_
                · rw [hnk]; simpa [Array.toList_extract, List.extract_eq_take_drop] using (hl.drop off).take kf.length
                · rw [hnk]; simpa [Array.toList_extract, List.extract_eq_take_drop] using (hl'.drop off).take kf.length
              | false =>
                have hk1 := hb1 rfl
                rw [hk1] at h1 hlen
                obtain ⟨a, ha, ha'⟩ := take_one (l := l) (off := off) (by simp only [List.length_take, List.length_drop]; omega)
                obtain ⟨a2, hc, hc'⟩ := take_one (l := l') (off := off) (by simp only [List.length_take, List.length_drop]; omega)
                obtain ⟨u, hu, hru⟩ := hl.get ha'
                obtain ⟨v, hv, hrv⟩ := hl'.get hc'
                rw [Array.getElem?_toList] at hu hv
                rw [ha, hc] at h1
                exact ⟨u, v, run_partOne hb us off hu, run_partOne hb vs off hv, q1 hb a a2 u v r1 h1 hru hrv⟩
            obtain ⟨u, v, p1, p2, p3⟩ := heq
            simp only [Op.eqFields, if_pos hne, Sem.run_bind, p1, p2, p3, Result.andThen_ok]
            cases r1
            · simp
            · simpa using ih
          · cases h
        · cases h
      · cases h
    · cases h

theorem plainKds_sound : ∀ (n : Nat) (t : TypeId) (ks : List Kd), plainKds P n t = some ks → ∀ d, n ≤ d → EqSays P x w d t ks ∧ ∃ b, agg? P t = some b ∧ (b = false → ks.length = 1)
  | 0, t, ks, h, _, _ => by simp [plainKds] at h
  | n + 1, t, ks, h, d, hd => by
    obtain ⟨d, rfl⟩ : ∃ d', d = d' + 1 := ⟨d - 1, by omega⟩
    have rep1 : ∀ {z : Value} {u : Value}, Rep x (.dv (.val z)) u → u = z := fun h => by cases h with | dv _ _ h => cases h; rfl
    unfold plainKds at h
    split at h
    · rename_i hu
      cases h
      have hag : agg? P t = some false := by unfold agg?; rw [hu]
      refine ⟨⟨fun _ a b u v r hr ha hb => ?_, fun hh => by rw [hag] at hh; cases hh⟩, false, hag, fun _ => rfl⟩
      unfold eqK at hr
      split at hr <;> try (cases hr; done)
      all_goals (rename_i h1 h2 h3; first | (cases h1; done) | skip)
      cases h1; cases h2; cases h3
      split at hr
      · rename_i r0 h0
        cases hr
        rw [eqK_nil h0]
        obtain rfl := rep1 ha; obtain rfl := rep1 hb
        simp [Op.equalIn, run_underlying hu]
      · cases hr
    · rename_i k hu
      cases h
      have hag : agg? P t = some false := by unfold agg?; rw [hu]
      refine ⟨⟨fun _ a b u v r hr ha hb => ?_, fun hh => by rw [hag] at hh; cases hh⟩, false, hag, fun _ => rfl⟩
      unfold eqK at hr
      split at hr <;> try (cases hr; done)
      all_goals (rename_i h1 h2 h3; first | (cases h1; done) | skip)
      cases h1; cases h2; cases h3
      split at hr
      · rename_i e1
        split at hr
        · rename_i e2
          split at hr
          · rename_i r0 h0
            cases hr
            rw [eqK_nil h0]
            subst e1; subst e2
            obtain rfl := rep1 ha; obtain rfl := rep1 hb
            simp [Op.equalIn, run_underlying hu]
          · cases hr
        · cases hr
      · cases hr
    · rename_i hu
      cases h
      have hag : agg? P t = some false := by unfold agg?; rw [hu]
      refine ⟨⟨fun _ a b u v r hr ha hb => ?_, fun hh => by rw [hag] at hh; cases hh⟩, false, hag, fun _ => rfl⟩
      unfold eqK at hr
      split at hr <;> try (cases hr; done)
      all_goals (rename_i h1 h2 h3; first | (cases h1; done) | skip)
      cases h1; cases h2; cases h3
      split at hr
      · rename_i r0 h0
        cases hr
        rw [eqK_nil h0]
        obtain rfl := rep1 ha; obtain rfl := rep1 hb
        simp [Op.equalIn, run_underlying hu]
      · cases hr
    · rename_i fs hu
      split at h
      · cases h
      · rename_i hst
        have hag : agg? P t = some true := agg_struct hu
        refine ⟨⟨fun hh => (by rw [hag] at hh; cases hh), fun _ l l' us vs r hr hl hl' => ?_⟩, true, hag, fun hh => (by cases hh)⟩
        have hf : P.fieldsOf t = fs := by simp [Program.fieldsOf, hu]
        rw [run_equalIn_struct (P := P) w d t us vs (by rw [hf]; exact hu) (by simpa using hst), hf]
        exact plainFields_sound (fun t' ks' h' => plainKds_sound n t' ks' h' d (by omega)) h (l := l) (l' := l') (by simpa using hr) (Nat.zero_le _) (Nat.zero_le _) hl hl'
    · cases h
end Go.Den
