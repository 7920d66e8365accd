import Derived.Test.YtlpnccpagikioaaDoorDen20
set_option linter.unusedVariables false
set_option linter.unusedSimpArgs false
set_option linter.unusedSectionVars false
/- Den is parametric: what it hands on does not hang on what stands behind. So a call may be inlined. -/
namespace Go.Den
variable {P : Program} {Φ : Orc}

def Pick (Φ : Orc) : Prop := ∀ (R : Type) (f : FuncId) (args : List AV) (ext : List (List AV)) (k : Out → Option R) (r : R), Φ.call R f args ext k = some r → ∃ out, k out = some r ∧ ∀ (R' : Type) (k' : Out → Option R'), Φ.call R' f args ext k' = k' out

/-- One of two continuations is called. -/
def Gone {R : Type} (k kp : Eff → Option R) (r : R) (F : (R' : Type) → (Eff → Option R') → (Eff → Option R') → Option R') : Prop :=
  (∃ eff, k eff = some r ∧ ∀ R' k' kp', F R' k' kp' = k' eff) ∨ (∃ eff, kp eff = some r ∧ ∀ R' k' kp', F R' k' kp' = kp' eff)

theorem opE_gone (hΦ : Pick Φ) {R : Type} {t : List AV} {m : Mem} {o : Oper} {k kp : Eff → Option R} {r : R} (h : opE P Φ t m o k kp = some r) : Gone k kp r (fun R' k' kp' => opE P Φ t m o k' kp') := by
  unfold opE at h
  cases hop : o.op
  case call c =>
    obtain ⟨callee, ys, ts⟩ := c
    cases callee with
    | value f =>
      simp only [hop] at h
      split at h
      · rename_i f' caps args hf ha
        unfold callE at h
        simp only at h
        split at h
        · rename_i ext hx
          split at h
          · rename_i hle
            obtain ⟨out, hk, hc⟩ := hΦ R _ _ _ _ _ h
            cases hp : out.pan with
            | true =>
              rw [hp] at hk
              exact .inr ⟨_, hk, fun R' k' kp' => by unfold opE callE; simp only [hop, hf, ha, hx, hc, hp, hle]⟩
            | false =>
              rw [hp] at hk
              exact .inl ⟨_, hk, fun R' k' kp' => by unfold opE callE; simp only [hop, hf, ha, hx, hc, hp, hle]⟩
          · rename_i hle
            split at h
            · rename_i hnt
              obtain ⟨out, hk, hc⟩ := hΦ R _ _ _ _ _ h
              cases hp : out.pan with
              | true =>
                rw [hp] at hk
                exact .inr ⟨_, hk, fun R' k' kp' => by unfold opE callE; simp only [hop, hf, ha, hx, hc, hp, hle, hnt]⟩
              | false =>
                rw [hp] at hk
                exact .inl ⟨_, hk, fun R' k' kp' => by unfold opE callE; simp only [hop, hf, ha, hx, hc, hp, hle, hnt]⟩
            · cases h
        · cases h
      · cases h
    | invoke r n => simp only [hop] at h; cases h
    | builtin b =>
      simp only [hop] at h
      split at h
      · rename_i args ha
        obtain ⟨eff, h1, h2⟩ := builtinE_pick h
        exact .inl ⟨eff, h1, fun R' k' kp' => by unfold opE; simp only [hop, ha, h2]⟩
      · cases h
  case load ty y =>
    simp only [hop] at h
    split at h
    · rename_i v hv
      obtain ⟨eff, h1, h2⟩ := loadE_pick h
      exact .inl ⟨eff, h1, fun R' k' kp' => by unfold opE; simp only [hop, hv, h2]⟩
    · cases h
  case store ty y z =>
    simp only [hop] at h
    split at h
    · rename_i v u hv hu
      obtain ⟨eff, h1, h2⟩ := storeE_pick h
      exact .inl ⟨eff, h1, fun R' k' kp' => by unfold opE; simp only [hop, hv, hu, h2]⟩
    · cases h
  case slice ty y lo hi mx =>
    simp only [hop] at h
    repeat' split at h
    all_goals first
      | cases h; done
      | obtain ⟨eff, h1, h2⟩ := sliceE_pick h
        exact .inl ⟨eff, h1, fun R' k' kp' => by unfold opE; first | (simp only [hop, *, if_true]; done) | (simp_all; done)⟩
  case typeAssert y t0 t1 c =>
    cases c
    · simp only [hop] at h
      repeat' split at h
      all_goals first
        | cases h; done
        | exact .inl ⟨_, h, fun R k kp => by unfold opE; first | (simp only [hop, *, if_true]; done) | (subst_vars; simp_all; done)⟩
    · simp only [hop] at h; cases h
  case makeFunc f first caps =>
    cases f
    case func f =>
      simp only [hop] at h
      repeat' split at h
      all_goals first
        | cases h; done
        | exact .inl ⟨_, h, fun R k kp => by unfold opE; first | (simp only [hop, *, if_true]; done) | (subst_vars; simp_all; done)⟩
    all_goals simp only [hop] at h; cases h
  case panic y =>
    simp only [hop] at h
    repeat' split at h
    all_goals first
      | cases h; done
      | exact .inr ⟨_, h, fun R k kp => by unfold opE; first | (simp only [hop, *, if_true]; done) | (subst_vars; simp_all; done)⟩
  all_goals simp only [hop] at h
  all_goals try (repeat' split at h)
  all_goals first
    | cases h; done
    | exact .inl ⟨_, h, fun R k kp => by unfold opE; first | (simp only [hop, *, if_true, if_false]; done) | (subst_vars; simp_all; done)⟩

/-- What a region comes to. -/
inductive Rg where
  | go (s : St) | pan (v : AV) (s : St)
def Rg.at {R : Type} (k : St → Option R) (kp : AV → St → Option R) : Rg → Option R
  | .go s => k s
  | .pan v s => kp v s

theorem stepE_pick (hΦ : Pick Φ) {R : Type} {o : Oper} {s : St} {k : St → Option R} {kp : AV → St → Option R} {r : R} (h : stepE P Φ o s k kp = some r) :
    ∃ g : Rg, g.at k kp = some r ∧ ∀ (R' : Type) (k' : St → Option R') (kp' : AV → St → Option R'), stepE P Φ o s k' kp' = g.at k' kp' := by
  unfold stepE at h
  rcases opE_gone hΦ h with ⟨eff, h1, h2⟩ | ⟨eff, h1, h2⟩
  · exact ⟨.go (s.apply o.dst eff), h1, fun R' k' kp' => h2 R' _ _⟩
  · exact ⟨.pan eff.val (s.apply none eff), h1, fun R' k' kp' => h2 R' _ _⟩

theorem regP_pick {R : Type} {kp : AV → St → Option R} {all : List Oper} {B : List (List Nat)} {acc : List El} {o : Oper} {s : St} {e : Eff} {r : R} (h : regP kp all B acc o s e = some r) :
    ∃ v s', kp v s' = some r ∧ ∀ (R' : Type) (kp' : AV → St → Option R'), regP kp' all B acc o s e = kp' v s' := by
  unfold regP at h
  split at h
  · rename_i D h1 h2
    simp only [Eff.force_eq, St.force_eq] at h
    exact ⟨_, _, h, fun R' kp' => by unfold regP; simp only [h1, h2, Eff.force_eq, St.force_eq]⟩
  · cases h
theorem regD_pick (hΦ : Pick Φ) {R : Type} {all : List Oper} {B : List (List Nat)} {k : St → Option R} {kp : AV → St → Option R} {r : R} : ∀ (l : List Oper) (acc : List El) (s : St), regD P Φ kp all B l acc s k = some r →
    ∃ g : Rg, g.at k kp = some r ∧ ∀ (R' : Type) (k' : St → Option R') (kp' : AV → St → Option R'), regD P Φ kp' all B l acc s k' = g.at k' kp'
  | [], acc, s, h => ⟨.go s, h, fun _ _ _ => rfl⟩
  | o :: l, acc, s, h => by
    have step : ∀ (t : List AV) (tch : List Nat) (s : St) (kx : (R : Type) → (AV → St → Option R) → Eff → Option R), (∀ R (kp : AV → St → Option R) eff r, kx R kp eff = some r → ∃ v s', kp v s' = some r ∧ ∀ (R' : Type) (kp' : AV → St → Option R'), kx R' kp' eff = kp' v s') → opE P Φ t s.m o (fun e =>
          let el := El.of all B acc.length o e true tch
          if okAll B acc.length 0 acc el then regD P Φ kp all B l (acc ++ [el]) (s.apply o.dst e) k else none) (kx R kp) = some r →
        ∃ g : Rg, g.at k kp = some r ∧ ∀ (R' : Type) (k' : St → Option R') (kp' : AV → St → Option R'), opE P Φ t s.m o (fun e =>
          let el := El.of all B acc.length o e true tch
          if okAll B acc.length 0 acc el then regD P Φ kp' all B l (acc ++ [el]) (s.apply o.dst e) k' else none) (kx R' kp') = g.at k' kp' := by
      intro t tch s kx hkx h
      rcases opE_gone hΦ h with ⟨eff, h1, h2⟩ | ⟨eff, h1, h2⟩
      · simp only at h1
        split at h1
        · rename_i hok
          obtain ⟨g, h3, h4⟩ := regD_pick hΦ l _ _ h1
          refine ⟨g, h3, fun R' k' kp' => (h2 R' _ _).trans ?_⟩
          simp only [hok, if_true]
          exact h4 R' k' kp'
        · cases h1
      · obtain ⟨v, s', h3, h4⟩ := hkx R kp eff r h1
        exact ⟨.pan v s', h3, fun R' k' kp' => (h2 R' _ _).trans (h4 R' kp')⟩
    have skip : ∀ (s : St), (let el := El.of all B acc.length o (.pure .junk) false []
          if okAll B acc.length 0 acc el then regD P Φ kp all B l (acc ++ [el]) (s.apply o.dst (.pure .junk)) k else none) = some r →
        ∃ g : Rg, g.at k kp = some r ∧ ∀ (R' : Type) (k' : St → Option R') (kp' : AV → St → Option R'), (let el := El.of all B acc.length o (.pure .junk) false []
          if okAll B acc.length 0 acc el then regD P Φ kp' all B l (acc ++ [el]) (s.apply o.dst (.pure .junk)) k' else none) = g.at k' kp' := by
      intro s h
      simp only at h
      split at h
      · rename_i hok
        obtain ⟨g, h3, h4⟩ := regD_pick hΦ l _ _ h
        refine ⟨g, h3, fun R' k' kp' => ?_⟩
        simp only [hok, if_true]
        exact h4 R' k' kp'
      · cases h
    simp only [regD, regN_eq] at h
    split at h
    · rename_i hg
      obtain ⟨g, h1, h2⟩ := step _ _ s (fun R kp e => regP kp all B acc o s e) (fun R kp eff r h => regP_pick h) h
      exact ⟨g, h1, fun R' k' kp' => by simp only [regD, regN_eq, hg]; exact h2 R' k' kp'⟩
    · rename_i j want hg
      split at h
      · cases h
      · rename_i d hd
        split at h
        · rename_i b hb
          cases b <;> cases want <;> simp only at h
          · obtain ⟨g, h1, h2⟩ := step _ _ (St.mk (s.t.set d (.B false)) s.m) (fun R kp e => none) (fun R kp eff r h => by cases h) h
            exact ⟨g, h1, fun R' k' kp' => by simp only [regD, regN_eq, hg, hd, hb]; exact h2 R' k' kp'⟩
          · obtain ⟨g, h1, h2⟩ := skip _ h
            exact ⟨g, h1, fun R' k' kp' => by simp only [regD, regN_eq, hg, hd, hb]; exact h2 R' k' kp'⟩
          · obtain ⟨g, h1, h2⟩ := skip _ h
            exact ⟨g, h1, fun R' k' kp' => by simp only [regD, regN_eq, hg, hd, hb]; exact h2 R' k' kp'⟩
          · obtain ⟨g, h1, h2⟩ := step _ _ (St.mk (s.t.set d (.B true)) s.m) (fun R kp e => none) (fun R kp eff r h => by cases h) h
            exact ⟨g, h1, fun R' k' kp' => by simp only [regD, regN_eq, hg, hd, hb]; exact h2 R' k' kp'⟩
        · cases h
theorem regA_pick (hΦ : Pick Φ) {R : Type} {ops : List Oper} {s : St} {k : St → Option R} {kp : AV → St → Option R} {r : R} (h : regA P Φ kp ops s k = some r) :
    ∃ g : Rg, g.at k kp = some r ∧ ∀ (R' : Type) (k' : St → Option R') (kp' : AV → St → Option R'), regA P Φ kp' ops s k' = g.at k' kp' := by
  unfold regA at h
  split at h
  · rename_i hb
    rw [befsK_eq] at h
    generalize hst : strikes ops (befs ops []) 0 ops = st at h
    obtain ⟨p, ks⟩ := st
    obtain ⟨g, h1, h2⟩ := regD_pick hΦ ops [] _ h
    exact ⟨g, h1, fun R' k' kp' => by unfold regA; rw [if_pos hb, befsK_eq, hst]; exact h2 R' k' kp'⟩
  · cases h

theorem loopE_pick {q : Nat} {tl ml : List Nat} {body : (R : Type) → (Ex → St → Option R) → St → Option R}
    (hb : ∀ (R : Type) (K : Ex → St → Option R) (r : R) (s : St), body R K s = some r → ∃ e s', K e s' = some r ∧ ∀ (R' : Type) (K' : Ex → St → Option R'), body R' K' s = K' e s')
    {R : Type} {K : Ex → St → Option R} {r : R} : ∀ (n : Nat) (s : St), loopE q tl ml (body R) n K s = some r → ∃ e s', K e s' = some r ∧ ∀ (R' : Type) (K' : Ex → St → Option R'), loopE q tl ml (body R') n K' s = K' e s'
  | 0, s, h => by simp [loopE] at h
  | n + 1, s, h => by
    simp only [loopE] at h
    obtain ⟨e, s', h1, h2⟩ := hb _ _ _ _ h
    cases e with
    | normal =>
      simp only at h1
      split at h1
      · rename_i s'' hn
        obtain ⟨e2, s2, h3, h4⟩ := loopE_pick hb n s'' h1
        exact ⟨e2, s2, h3, fun R' K' => by simp only [loopE]; rw [h2]; simp only [hn]; exact h4 R' K'⟩
      · cases h1
    | exit id => exact ⟨_, s', h1, fun R' K' => by simp only [loopE]; rw [h2]⟩
    | ret => exact ⟨_, s', h1, fun R' K' => by simp only [loopE]; rw [h2]⟩
    | pan v => exact ⟨_, s', h1, fun R' K' => by simp only [loopE]; rw [h2]⟩

theorem thaw_pick {t slot : Nat} {s : St} {R : Type} {k : St → Option R} {r : R} (h : thaw t slot s k = some r) : ∃ s', k s' = some r ∧ ∀ (R' : Type) (k' : St → Option R'), thaw t slot s k' = k' s' := by
  unfold thaw at h
  split at h
  · rename_i nl ks rows j ht
    split at h
    · rename_i hc
      exact ⟨_, h, fun R' k' => by unfold thaw; simp only [ht, hc]⟩
    · rename_i hc
      split at h
      · rename_i hc2
        exact ⟨_, h, fun R' k' => by unfold thaw; simp only [ht, hc, hc2]⟩
      · cases h
  · rename_i v hne ht
    refine ⟨s, h, fun R' k' => ?_⟩
    unfold thaw
    split
    · rename_i nl ks rows j ht'
      rw [ht] at ht'
      exact absurd (Option.some.inj ht') (hne _ _ _ _)
    · rfl
    · rename_i ht'; rw [ht] at ht'; cases ht'
  · cases h
theorem freeze_pick {t : Nat} {s : St} {R : Type} {k : St → Option R} {r : R} (h : freeze t s k = some r) : ∃ s', k s' = some r ∧ ∀ (R' : Type) (k' : St → Option R'), freeze t s k' = k' s' := by
  unfold freeze at h
  split at h
  · rename_i slot ks off n c ht
    split at h
    · rename_i ks2 rows hl
      split at h
      · rename_i hc
        split at h
        · rename_i hlen
          exact ⟨_, h, fun R' k' => by unfold freeze; simp only [ht, hl, hc, if_pos hlen]⟩
        · cases h
      · cases h
    · cases h
  · rename_i v hne ht
    refine ⟨s, h, fun R' k' => ?_⟩
    unfold freeze
    split
    · rename_i slot ks off n c ht'
      rw [ht] at ht'
      exact absurd (Option.some.inj ht') (hne _ _ _ _ _)
    · rfl
    · rename_i ht'; rw [ht] at ht'; cases ht'
  · cases h
theorem niled_pick {t : Nat} {s : St} {R : Type} {k : St → Option R} {r : R} (h : niled t s k = some r) : ∃ s', k s' = some r ∧ ∀ (R' : Type) (k' : St → Option R'), niled t s k' = k' s' := by
  unfold niled at h
  split at h
  · rename_i nl ks rows r0 ht
    cases nl with
    | true => exact ⟨_, h, fun R' k' => by unfold niled; simp only [ht]⟩
    | false => exact ⟨_, h, fun R' k' => by unfold niled; simp only [ht]⟩
  · rename_i v hne ht
    refine ⟨s, h, fun R' k' => ?_⟩
    unfold niled
    split
    · rename_i nl ks rows r0 ht'
      rw [ht] at ht'
      exact absurd (Option.some.inj ht') (hne _ _ _ _)
    · rfl
    · rename_i ht'; rw [ht] at ht'; cases ht'
  · cases h
theorem pre_pick {R : Type} {k : St → Option R} {r : R} : ∀ {l : List Nat} {s : St}, pre l s k = some r → ∃ s', k s' = some r ∧ ∀ (R' : Type) (k' : St → Option R'), pre l s k' = k' s'
  | [], s, h => ⟨s, h, fun _ _ => rfl⟩
  | 0 :: t :: slot :: l, s, h => by
    obtain ⟨s1, h1, h2⟩ := thaw_pick h
    obtain ⟨s2, h3, h4⟩ := pre_pick h1
    exact ⟨s2, h3, fun R' k' => (h2 R' _).trans (h4 R' k')⟩
  | 1 :: t :: l, s, h => by
    obtain ⟨s1, h1, h2⟩ := freeze_pick h
    obtain ⟨s2, h3, h4⟩ := pre_pick h1
    exact ⟨s2, h3, fun R' k' => (h2 R' _).trans (h4 R' k')⟩
  | 2 :: t :: l, s, h => by
    obtain ⟨s1, h1, h2⟩ := niled_pick h
    obtain ⟨s2, h3, h4⟩ := pre_pick h1
    exact ⟨s2, h3, fun R' k' => (h2 R' _).trans (h4 R' k')⟩
  | [0], s, h => by cases h
  | [0, _], s, h => by cases h
  | [1], s, h => by cases h
  | [2], s, h => by cases h
  | (n + 3) :: l, s, h => by cases l <;> cases h

theorem regE_pick (hΦ : Pick Φ) {R : Type} {lv : Live} {all : List Oper} {k : St → Option R} {kp : AV → St → Option R} {r : R} : ∀ (l : List Oper) (s : St), regE P Φ lv all l s k kp = some r →
    ∃ g : Rg, g.at k kp = some r ∧ ∀ (R' : Type) (k' : St → Option R') (kp' : AV → St → Option R'), regE P Φ lv all l s k' kp' = g.at k' kp'
  | [], s, h => ⟨.go s, h, fun _ _ _ => rfl⟩
  | o :: l, s, h => by
    have step : ∀ s, stepE P Φ o s (fun s' => regE P Φ lv all l s' k kp) kp = some r → ∃ g : Rg, g.at k kp = some r ∧ ∀ (R' : Type) (k' : St → Option R') (kp' : AV → St → Option R'), stepE P Φ o s (fun s' => regE P Φ lv all l s' k' kp') kp' = g.at k' kp' := by
      intro s h
      obtain ⟨g, h1, h2⟩ := stepE_pick hΦ h
      cases g with
      | go s' =>
        obtain ⟨g, h3, h4⟩ := regE_pick hΦ l s' h1
        exact ⟨g, h3, fun R' k' kp' => (h2 R' _ _).trans (h4 R' _ _)⟩
      | pan v s' => exact ⟨.pan v s', h1, fun R' k' kp' => h2 R' _ _⟩
    simp only [regE] at h
    obtain ⟨s, h, hp⟩ := pre_pick h
    unfold reg1 at h
    split at h
    · rename_i hg
      obtain ⟨g, h1, h2⟩ := step s h
      exact ⟨g, h1, fun R' k' kp' => by simp only [regE]; rw [hp]; simp only [reg1, hg]; exact h2 R' k' kp'⟩
    · rename_i j want hg
      split at h
      · cases h
      · rename_i d hd
        split at h
        · rename_i b hb
          cases b <;> cases want <;> simp only at h
          · obtain ⟨g, h1, h2⟩ := step _ h
            exact ⟨g, h1, fun R' k' kp' => by simp only [regE]; rw [hp]; simp only [reg1, hg, hd, hb]; exact h2 R' k' kp'⟩
          · obtain ⟨g, h1, h2⟩ := regE_pick hΦ l _ h
            exact ⟨g, h1, fun R' k' kp' => by simp only [regE]; rw [hp]; simp only [reg1, hg, hd, hb]; exact h2 R' k' kp'⟩
          · obtain ⟨g, h1, h2⟩ := regE_pick hΦ l _ h
            exact ⟨g, h1, fun R' k' kp' => by simp only [regE]; rw [hp]; simp only [reg1, hg, hd, hb]; exact h2 R' k' kp'⟩
          · obtain ⟨g, h1, h2⟩ := step _ h
            exact ⟨g, h1, fun R' k' kp' => by simp only [regE]; rw [hp]; simp only [reg1, hg, hd, hb]; exact h2 R' k' kp'⟩
        · rename_i hb
          obtain ⟨g, h1, h2⟩ := regE_pick hΦ l _ h
          exact ⟨g, h1, fun R' k' kp' => by simp only [regE]; rw [hp]; simp only [reg1, hg, hd, hb]; exact h2 R' k' kp'⟩
        · cases h

theorem den_pick (hΦ : Pick Φ) (lv : Live) (n : Nat) : ∀ (c : Code) (R : Type) (K : Ex → St → Option R) (r : R) (s : St), den P Φ lv n c K s = some r → ∃ e s', K e s' = some r ∧ ∀ (R' : Type) (K' : Ex → St → Option R'), den P Φ lv n c K' s = K' e s' := by
  intro c
  induction c with
  | skip => intro R K r s h; exact ⟨.normal, s, h, fun _ _ => rfl⟩
  | region id ops draw =>
    intro R K r s h
    simp only [den, St.force_eq] at h ⊢
    obtain ⟨s0, h, hp⟩ := pre_pick h
    cases draw with
    | false =>
      obtain ⟨g, h1, h2⟩ := regE_pick hΦ ops.toList s0 h
      cases g with
      | go s' => exact ⟨.normal, s', h1, fun R' K' => (hp R' _).trans (h2 R' _ _)⟩
      | pan v s' => exact ⟨.pan v, s', h1, fun R' K' => (hp R' _).trans (h2 R' _ _)⟩
    | true =>
      obtain ⟨g, h1, h2⟩ := regA_pick hΦ h
      cases g with
      | go s' => exact ⟨.normal, s', h1, fun R' K' => (hp R' _).trans (h2 R' _ _)⟩
      | pan v s' => exact ⟨.pan v, s', h1, fun R' K' => (hp R' _).trans (h2 R' _ _)⟩
  | seq a b iha ihb =>
    intro R K r s h
    simp only [den] at h ⊢
    obtain ⟨e, s', h1, h2⟩ := iha _ _ _ _ h
    cases e with
    | normal =>
      obtain ⟨e2, s2, h3, h4⟩ := ihb _ _ _ _ h1
      exact ⟨e2, s2, h3, fun R' K' => by rw [h2]; exact h4 R' K'⟩
    | exit id => exact ⟨_, s', h1, fun R' K' => by rw [h2]⟩
    | ret => exact ⟨_, s', h1, fun R' K' => by rw [h2]⟩
    | pan v => exact ⟨_, s', h1, fun R' K' => by rw [h2]⟩
  | cond c a b iha ihb =>
    intro R K r s h
    simp only [den] at h ⊢
    split at h
    · rename_i x hx
      cases x with
      | true =>
        obtain ⟨e, s', h1, h2⟩ := iha _ _ _ _ h
        exact ⟨e, s', h1, fun R' K' => by simp only [hx]; exact h2 R' K'⟩
      | false =>
        obtain ⟨e, s', h1, h2⟩ := ihb _ _ _ _ h
        exact ⟨e, s', h1, fun R' K' => by simp only [hx]; exact h2 R' K'⟩
    · cases h
  | block id b ih =>
    intro R K r s h
    simp only [den] at h ⊢
    obtain ⟨e, s', h1, h2⟩ := ih _ _ _ _ h
    cases e with
    | normal => exact ⟨_, s', h1, fun R' K' => by rw [h2]⟩
    | exit j =>
      simp only at h1
      cases hj : Nat.beq j id with
      | true => rw [hj] at h1; exact ⟨_, s', h1, fun R' K' => by rw [h2]; simp only [hj, if_true]⟩
      | false => rw [hj] at h1; exact ⟨_, s', h1, fun R' K' => by rw [h2]; simp only [hj]; rfl⟩
    | ret => exact ⟨_, s', h1, fun R' K' => by rw [h2]⟩
    | pan v => exact ⟨_, s', h1, fun R' K' => by rw [h2]⟩
  | loop b ih =>
    intro R K r s h
    simp only [den] at h ⊢
    split at h
    · rename_i tl ml hlv
      split at h
      · rename_i s' hn
        obtain ⟨e, s2, h1, h2⟩ := loopE_pick (q := key b) (tl := tl) (ml := ml) (body := fun R K s => den P Φ lv n b K s) (fun R K r s h => ih R K r s h) n s' h
        exact ⟨e, s2, h1, fun R' K' => by first | exact h2 R' K' | (simp only [hlv, hn]; exact h2 R' K')⟩
      · cases h
    · cases h
  | exit id => intro R K r s h; exact ⟨_, s, h, fun _ _ => rfl⟩
  | ret =>
    intro R K r s h
    simp only [den] at h ⊢
    obtain ⟨s0, h, hp⟩ := pre_pick h
    exact ⟨.ret, s0, h, fun R' K' => hp R' _⟩
  | rangeFunc => intro R K r s h; simp [den] at h
  | scope b ih => intro R K r s h; exact ih R K r s h
  | label l => intro R K r s h; exact ⟨_, s, h, fun _ _ => rfl⟩
  | goto => intro R K r s h; simp [den] at h
  | refuse => intro R K r s h; simp [den] at h

theorem resE_pick {s : St} : ∀ (l : List ResultVar) {R : Type} (k : List AV → Option R) (r : R), resE P s l k = some r → ∃ vs, k vs = some r ∧ ∀ (R' : Type) (k' : List AV → Option R'), resE P s l k' = k' vs
  | [], R, k, r, h => ⟨[], h, fun _ _ => rfl⟩
  | .tmp t :: l, R, k, r, h => by
    simp only [resE] at h
    split at h
    · rename_i v hv
      obtain ⟨vs, h1, h2⟩ := resE_pick l _ _ h
      exact ⟨v :: vs, h1, fun R' k' => by simp only [resE, hv]; exact h2 R' _⟩
    · cases h
  | .cell a t :: l, R, k, r, h => by
    simp only [resE] at h
    split at h
    · rename_i v hv
      obtain ⟨eff, h1, h2⟩ := loadE_pick h
      obtain ⟨vs, h3, h4⟩ := resE_pick l _ _ h1
      exact ⟨eff.val :: vs, h3, fun R' k' => by simp only [resE, hv]; rw [h2]; exact h4 R' _⟩
    · cases h
theorem fin_pick {fn : Func} {keep : Bool} {ext : List (List AV)} {R : Type} {K : Out → Option R} {e : Ex} {s : St} {r : R} (h : fin P fn keep ext K e s = some r) : ∃ out, K out = some r ∧ ∀ (R' : Type) (K' : Out → Option R'), fin P fn keep ext K' e s = K' out := by
  have res : (resE P s fn.results.toList fun vs => match canon keep vs, extOf s.m 1000 ext with
    | some v, some ex => K ⟨false, v, ex⟩
    | _, _ => none) = some r → ∃ out, K out = some r ∧ ∀ (R' : Type) (K' : Out → Option R'), (resE P s fn.results.toList fun vs => match canon keep vs, extOf s.m 1000 ext with
    | some v, some ex => K' ⟨false, v, ex⟩
    | _, _ => none) = K' out := by
    intro h
    obtain ⟨vs, h1, h2⟩ := resE_pick _ _ _ h
    split at h1
    · rename_i v ex hv hex
      exact ⟨_, h1, fun R' K' => by rw [h2]; simp only [hv, hex]⟩
    · cases h1
  unfold fin at h
  cases e with
  | exit id => cases h
  | pan v =>
    simp only at h
    split at h
    · rename_i ex hex
      exact ⟨_, h, fun R' K' => by unfold fin; simp only [hex]⟩
    · cases h
  | normal => obtain ⟨out, h1, h2⟩ := res h; exact ⟨out, h1, fun R' K' => h2 R' K'⟩
  | ret => obtain ⟨out, h1, h2⟩ := res h; exact ⟨out, h1, fun R' K' => h2 R' K'⟩
theorem denFn_pick (hΦ : Pick Φ) {lv : Live} {n : Nat} {fn : Func} {keep : Bool} {args : List AV} {ext : List (List AV)} {R : Type} {K : Out → Option R} {r : R} (h : denFn P Φ lv n fn keep args ext K = some r) :
    ∃ out, K out = some r ∧ ∀ (R' : Type) (K' : Out → Option R'), denFn P Φ lv n fn keep args ext K' = K' out := by
  unfold denFn at h
  split at h
  · cases h
  · rename_i c hc
    split at h
    · rename_i hle
      obtain ⟨e, s', h1, h2⟩ := den_pick hΦ lv n c _ _ _ _ h
      obtain ⟨out, h3, h4⟩ := fin_pick h1
      exact ⟨out, h3, fun R' K' => by unfold denFn; simp only [hc, hle, if_true]; rw [h2]; exact h4 R' K'⟩
    · cases h

def Tab.named (P : Program) : Tab → Bool
  | [] => true
  | (f, _) :: l => (match P.funcs[f]? with | some fn => fn.name != "runtime.NumGoroutine" | none => true) && Tab.named P l
theorem Tab.named_get {P : Program} : ∀ {T : Tab}, Tab.named P T = true → ∀ {f : FuncId} {lv : Live × List Nat}, Tab.live T f = some lv → ∀ {fn : Func}, P.funcs[f]? = some fn → fn.name ≠ "runtime.NumGoroutine"
  | [], _, f, lv, h, _, _ => by simp [Tab.live] at h
  | (g, l0) :: T, h, f, lv, hl, fn, hf => by
    simp only [Tab.named, Bool.and_eq_true] at h
    simp only [Tab.live] at hl
    split at hl
    · rename_i hg
      rw [beq_eq] at hg
      subst hg
      have := h.1
      rw [hf] at this
      simpa using this
    · exact Tab.named_get h.2 hl hf
theorem inl_ok {P : Program} {T : Tab} {n : Nat} {Φ : Orc} (hmix : P.follows .mixedOrders = true) (hT : Tab.named P T = true) (hp : Pick Φ) (hs : OSound P Φ) : ∀ d h, Pick (inl P T n Φ d h) ∧ OSound P (inl P T n Φ d h)
  | 0, h => ⟨hp, hs⟩
  | d + 1, h => by
    have ih := inl_ok (n := n) hmix hT hp hs d
    have pk : Pick (inl P T n Φ (d + 1) h) := by
      intro R f args ext k r h
      simp only [inl] at h ⊢
      split at h
      · rename_i ht
        obtain ⟨out, h1, h2⟩ := hp _ _ _ _ _ _ h
        exact ⟨out, h1, fun R' k' => by simp only [h2]⟩
      · rename_i lv hs' ht
        split at h
        · rename_i fn hf
          obtain ⟨out, h1, h2⟩ := denFn_pick (ih hs').1 h
          exact ⟨out, h1, fun R' k' => by simp only [h2]⟩
        · cases h
    refine ⟨pk, ?_⟩
    intro R f args ext k r h
    simp only [inl] at h
    split at h
    · exact hs _ _ _ _ _ _ h
    · rename_i lv hs' ht
      split at h
      · rename_i fn hf
        obtain ⟨out, h1, h2⟩ := denFn_pick (ih hs').1 h
        exact ⟨out, fn_ok (ih hs').2 hmix hf (Tab.named_get hT ht hf) (h2 Out some), h1⟩
      · cases h
theorem pick_none (hs : List Nat) : Pick ⟨fun _ _ _ _ _ => none, hs⟩ := fun _ _ _ _ _ _ h => by cases h
end Go.Den
