import Derived.Test.YtamalelonhdfaaaDen17
set_option linter.unusedVariables false
set_option linter.unusedSimpArgs false
set_option linter.unusedSectionVars false
/- Drawn regions: whatever the order, the machine does what den answers. -/
namespace Go.Den

/-- An operation's step, in text order. -/
structure StepOk (P : Program) (all : List Oper) (s : St) (el : El) : Prop where
  nm : el.nm = names all el.o
  yes : el.want = true → (el.o.guard = none ∨ ∃ g want d, el.o.guard = some (g, want) ∧ guardTmp all g = some d ∧ s.t[d]? = some (.B want)) ∧ Gives P s.t s.m el.o el.eff ∧ el.tch = touch P s.t el.o
  no : el.want = false → el.eff = .pure .junk ∧ ∃ g want d, el.o.guard = some (g, want) ∧ guardTmp all g = some d ∧ s.t[d]? = some (.B (!want))
inductive Chain (P : Program) (all : List Oper) (B : List (List Nat)) : List El → St → List El → St → Prop
  | nil (acc : List El) (s : St) : Chain P all B acc s [] s
  | cons (acc : List El) (s : St) (el : El) (l : List El) (s' : St) : StepOk P all s el → (∃ o eff want tch, el = El.of all B acc.length o eff want tch) → okAll B acc.length 0 acc el = true →
      Chain P all B (acc ++ [el]) (el.app s) l s' → Chain P all B acc s (el :: l) s'

theorem of_o (all : List Oper) (B : List (List Nat)) (i : Nat) (o : Oper) (eff : Eff) (want : Bool) (tch : List Nat) :
    (El.of all B i o eff want tch).o = o ∧ (El.of all B i o eff want tch).eff = eff ∧ (El.of all B i o eff want tch).want = want ∧ (El.of all B i o eff want tch).tch = tch ∧ (El.of all B i o eff want tch).nm = names all o := by
  unfold El.of; split <;> exact ⟨rfl, rfl, rfl, rfl, rfl⟩
theorem set_get {t : List AV} {d : Nat} {a : AV} (h : t[d]? = some a) : t.set d a = t := by
  apply List.ext_getElem?
  intro i
  by_cases hi : d = i
  · subst hi
    have hlt : d < t.length := (List.getElem?_eq_some_iff.1 h).1
    rw [List.getElem?_set_self hlt, h]
  · rw [List.getElem?_set_ne hi]

theorem regD_chain {P : Program} {Φ : Orc} (hΦ : OSound P Φ) {R : Type} {all : List Oper} {B : List (List Nat)} {k : St → Option R} {res : R} :
    ∀ (rest : List Oper) (acc : List El) (s : St), regD P Φ all B rest acc s k = some res → ∃ l s', Chain P all B acc s l s' ∧ l.map (·.o) = rest ∧ k s' = some res
  | [], acc, s, h => ⟨[], s, .nil acc s, rfl, by simpa only [regD] using h⟩
  | o :: rest, acc, s, h => by
    -- an operation that is done
    have yes : (o.guard = none ∨ ∃ g want d, o.guard = some (g, want) ∧ guardTmp all g = some d ∧ s.t[d]? = some (.B want)) →
        opE P Φ s.t s.m o (fun e =>
          let el := El.of all B acc.length o e true (touch P s.t o)
          if okAll B acc.length 0 acc el then regD P Φ all B rest (acc ++ [el]) (s.apply o.dst e) k else none) (fun _ => none) = some res →
        ∃ l s', Chain P all B acc s l s' ∧ l.map (·.o) = o :: rest ∧ k s' = some res := by
      intro hg h
      obtain ⟨eff, h1, h2⟩ := opE_pick hΦ h
      simp only at h1
      split at h1
      · rename_i hok
        obtain ⟨e1, e2, e3, e4, e5⟩ := of_o all B acc.length o eff true (touch P s.t o)
        have happ : (El.of all B acc.length o eff true (touch P s.t o)).app s = s.apply o.dst eff := by unfold El.app; rw [e1, e2]
        obtain ⟨l, s', g1, g2, g3⟩ := regD_chain hΦ rest _ _ h1
        refine ⟨_ :: l, s', .cons acc s _ l s' ⟨by rw [e5, e1], fun _ => ?_, fun hw => by rw [e3] at hw; cases hw⟩ ⟨_, _, _, _, rfl⟩ hok (by rw [happ]; exact g1), by simp [e1, g2], g3⟩
        rw [e1, e2, e4]
        exact ⟨hg, h2, rfl⟩
      · cases h1
    have no : ∀ g want d, o.guard = some (g, want) → guardTmp all g = some d → s.t[d]? = some (.B (!want)) →
        (let el := El.of all B acc.length o (.pure .junk) false []
          if okAll B acc.length 0 acc el then regD P Φ all B rest (acc ++ [el]) (s.apply o.dst (.pure .junk)) k else none) = some res →
        ∃ l s', Chain P all B acc s l s' ∧ l.map (·.o) = o :: rest ∧ k s' = some res := by
      intro g want d hg hd hb h1
      simp only at h1
      split at h1
      · rename_i hok
        obtain ⟨e1, e2, e3, e4, e5⟩ := of_o all B acc.length o (.pure .junk) false []
        have happ : (El.of all B acc.length o (.pure .junk) false []).app s = s.apply o.dst (.pure .junk) := by unfold El.app; rw [e1, e2]
        obtain ⟨l, s', g1, g2, g3⟩ := regD_chain hΦ rest _ _ h1
        refine ⟨_ :: l, s', .cons acc s _ l s' ⟨by rw [e5, e1], fun hw => (by rw [e3] at hw; cases hw), fun _ => ?_⟩ ⟨_, _, _, _, rfl⟩ hok (by rw [happ]; exact g1), by simp [e1, g2], g3⟩
        rw [e1, e2]
        exact ⟨rfl, g, want, d, hg, hd, hb⟩
      · cases h1
    simp only [regD, regN_eq] at h
    split at h
    · rename_i hg; exact yes (.inl hg) h
    · rename_i g want hg
      split at h
      · cases h
      · rename_i d hd
        split at h
        · rename_i b hb
          cases b <;> cases want <;> simp only at h <;> rw [set_get hb] at h
          · exact yes (.inr ⟨g, false, d, hg, hd, hb⟩) h
          · exact no g true d hg hd hb h
          · exact no g false d hg hd hb h
          · exact yes (.inr ⟨g, true, d, hg, hd, hb⟩) h
        · cases h

/-! what a chain knows -/
theorem okAll_get {B : List (List Nat)} {j : Nat} {b : El} : ∀ {l : List El} {i : Nat}, okAll B j i l b = true → ∀ k a, l[k]? = some a → okPair (bef B (i + k) j) a b = true
  | [], i, _, k, a, h => by simp at h
  | c :: l, i, h, 0, a, ha => by
    simp only [okAll, Bool.and_eq_true] at h
    simp at ha; subst ha; exact h.1
  | c :: l, i, h, k + 1, a, ha => by
    simp only [okAll, Bool.and_eq_true] at h
    have := okAll_get h.2 k a (by simpa using ha)
    rw [← this]; congr 2; omega
theorem Chain.pairs {P : Program} {all : List Oper} {B : List (List Nat)} : ∀ {acc : List El} {s : St} {l : List El} {s' : St}, Chain P all B acc s l s' →
    (∀ i j a b, i < j → acc[i]? = some a → acc[j]? = some b → okPair (bef B i j) a b = true) →
    ∀ i j a b, i < j → (acc ++ l)[i]? = some a → (acc ++ l)[j]? = some b → okPair (bef B i j) a b = true
  | _, _, _, _, .nil acc s, h => by simpa using h
  | _, _, _, _, .cons acc s el l s' _ _ hok hc, h => by
    have := hc.pairs (fun i j a b hij ha hb => by
      by_cases hj : j < acc.length
      · rw [List.getElem?_append_left hj] at hb
        rw [List.getElem?_append_left (by omega)] at ha
        exact h i j a b hij ha hb
      · have hj2 : j = acc.length := by
          have := (List.getElem?_eq_some_iff.1 hb).1
          simp at this; omega
        subst hj2
        simp at hb; subst hb
        rw [List.getElem?_append_left hij] at ha
        have := okAll_get hok i a ha
        simpa using this)
    simpa using this
theorem Chain.step {P : Program} {all : List Oper} {B : List (List Nat)} : ∀ {acc : List El} {s : St} {l : List El} {s' : St}, Chain P all B acc s l s' → ∀ (i j : Nat) (el : El), l[j]? = some el → StepOk P all (stage (fun k => decide (k < i + j)) i l s) el
  | _, _, _, _, .nil acc s, i, j, el, h => by simp at h
  | _, _, _, _, .cons acc s e l s' hs _ _ hc, i, 0, el, h => by
    simp at h; subst h
    have hn : ∀ (l : List El) (n : Nat), i ≤ n → stage (fun k => decide (k < i + 0)) n l s = s := by
      intro l
      induction l with
      | nil => intro n _; rfl
      | cons e l ih => intro n hn; have hd : decide (n < i + 0) = false := decide_eq_false (by omega); simp only [stage, hd, Bool.false_eq_true, if_false]; exact ih (n + 1) (by omega)
    rw [hn _ _ (Nat.le_refl _)]; exact hs
  | _, _, _, _, .cons acc s e l s' hs _ _ hc, i, j + 1, el, h => by
    have hd : decide (i < i + (j + 1)) = true := decide_eq_true (by omega)
    simp only [stage, hd, if_true]
    have := hc.step (i + 1) j el (by simpa using h)
    rw [show i + 1 + j = i + (j + 1) by omega] at this
    exact this
theorem Chain.done {P : Program} {all : List Oper} {B : List (List Nat)} : ∀ {acc : List El} {s : St} {l : List El} {s' : St}, Chain P all B acc s l s' → ∀ i, stage (fun _ => true) i l s = s'
  | _, _, _, _, .nil acc s, i => rfl
  | _, _, _, _, .cons acc s e l s' hs _ _ hc, i => by simp only [stage, if_true]; exact hc.done (i + 1)
theorem strikes_get (all : List Oper) (B : List (List Nat)) : ∀ (l : List Oper) (i : Nat) (j : Nat) (o : Oper), l[j]? = some o → ∀ o' eff want tch, o' = o →
    (∀ k ∈ (El.of all B (i + j) o' eff want tch).p, k ∈ (strikes all B i l).1) ∧ (∀ k ∈ (El.of all B (i + j) o' eff want tch).k, k ∈ (strikes all B i l).2)
  | [], i, j, o, h => by simp at h
  | o0 :: l, i, 0, o, h => by
    simp at h; subst h
    rintro o' eff want tch rfl
    simp only [strikes, Nat.add_zero]
    unfold El.of
    cases fixed B i all.length with
    | true => exact ⟨fun k hk => absurd hk List.not_mem_nil, fun k hk => absurd hk List.not_mem_nil⟩
    | false => exact ⟨fun k hk => List.mem_append_left _ hk, fun k hk => List.mem_append_left _ hk⟩
  | o0 :: l, i, j + 1, o, h => by
    intro o' eff want tch ho
    have := strikes_get all B l (i + 1) j o (by simpa using h) o' eff want tch ho
    rw [show i + 1 + j = i + (j + 1) by omega] at this
    simp only [strikes]
    cases fixed B i all.length with
    | true => exact this
    | false => exact ⟨fun k hk => List.mem_append_right _ (this.1 k hk), fun k hk => List.mem_append_right _ (this.2 k hk)⟩
theorem Chain.own {P : Program} {all : List Oper} {B : List (List Nat)} : ∀ {acc : List El} {s : St} {l : List El} {s' : St}, Chain P all B acc s l s' → ∀ j el, l[j]? = some el → ∃ eff want tch, el = El.of all B (acc.length + j) el.o eff want tch
  | _, _, _, _, .nil acc s, j, el, h => by simp at h
  | _, _, _, _, .cons acc s e l s' _ ⟨o, eff, want, tch, he⟩ _ hc, 0, el, h => by
    simp at h; subst h
    have : e.o = o := by rw [he]; exact (of_o ..).1
    exact ⟨eff, want, tch, by rw [this]; exact he⟩
  | _, _, _, _, .cons acc s e l s' _ _ _ hc, j + 1, el, h => by
    obtain ⟨eff, want, tch, h1⟩ := hc.own j el (by simpa using h)
    refine ⟨eff, want, tch, ?_⟩
    rw [h1]
    simp only [List.length_append, List.length_singleton]
    rw [show acc.length + 1 + j = acc.length + (j + 1) by omega, (of_o ..).1]
theorem strike_clean {p ks p' ks' : List Nat} (hp : ∀ k ∈ p', k ∈ p) (hk : ∀ k ∈ ks', k ∈ ks) (s : St) : CleanSt p' ks' (strike p ks s) := by
  refine ⟨cleanL_scrub (.inr ⟨hp, hk⟩), fun k cs h => ?_⟩
  simp only [strike] at h
  rw [lookup_scrubM, lookup_dropAll] at h
  obtain ⟨c0, h0, rfl⟩ := Option.map_eq_some_iff.1 h
  split at h0
  · cases h0
  · rename_i hm
    exact ⟨by rw [mem_false]; rw [mem_iff] at hm; exact fun h' => hm (hp k h'), cleanL_scrub (.inr ⟨hp, hk⟩)⟩

variable {e : Env} {R : Type} {res : R}
theorem StOk.strike {x : X} {w : World} {s : St} {a : Act} (hs : StOk e x w s a) (p ks : List Nat) : StOk e x w (strike p ks s) a := by
  refine ⟨?_, hs.tmps.scrub (Ext.refl _ _ _), hs.defers⟩
  refine hs.inv.forget (p := p) (ks := ks) (Ext.refl _ _ _) rfl (fun _ _ h => h) (fun _ _ => rfl) ?_ hs.inv.tok hs.inv.tokslot hs.inv.toktok
  intro k cs hk
  simp only [Den.strike] at hk
  rw [lookup_scrubM, lookup_dropAll] at hk
  obtain ⟨c0, h0, h1⟩ := Option.map_eq_some_iff.1 hk
  split at h0
  · cases h0
  · rename_i hm
    exact ⟨by simpa using hm, c0, h0, h1.symm⟩
theorem backsL_mem {i : Nat} : ∀ {l : List Nat}, backs.backsL i l = true → ∀ j ∈ l, j < i
  | [], _, j, h => by cases h
  | k :: l, h, j, hj => by
    simp only [backs.backsL, Bool.and_eq_true, Nat.blt_eq] at h
    rcases List.mem_cons.1 hj with h1 | h1
    · subst h1; exact h.1
    · exact backsL_mem h.2 j h1
theorem backs_get : ∀ {l : List Oper} {i : Nat}, backs i l = true → ∀ j o, l[j]? = some o → ∀ k ∈ bindsOf o.after.toList, k < i + j
  | [], i, _, j, o, h => by simp at h
  | o0 :: l, i, hb, 0, o, h => by
    simp only [backs, Bool.and_eq_true] at hb
    simp at h; subst h; exact backsL_mem hb.1
  | o0 :: l, i, hb, j + 1, o, h => by
    simp only [backs, Bool.and_eq_true] at hb
    intro k hk
    have := backs_get hb.2 j o (by simpa using h) k hk
    omega
theorem tmpsOf_mem {d : Tmp} : ∀ {l : List Operand}, .tmp d ∈ l → d ∈ tmpsOf l
  | [], h => by cases h
  | y :: l, h => by
    rcases List.mem_cons.1 h with h1 | h1
    · subst h1; simp [tmpsOf]
    · have := tmpsOf_mem h1
      cases y <;> simp [tmpsOf, this]

open Classical in
theorem draw_sound {Φ : Orc} (hΦ : OSound e.P Φ) (hmix : e.P.follows .mixedOrders = true) {id : Nat} {ops : Array Oper} {K : Ex → St → Option R} {Q : Exit → Act → World → Prop} (hK : KOk e K res Q)
    {s : St} {x : X} {w : World} {a : Act} (hs : StOk e x w s a) (h : regA e.P Φ ops.toList s (fun s => K .normal s) = some res) : (Code.region id ops true).wp e.P Q a w := by
  unfold regA at h
  split at h
  case isFalse => cases h
  rename_i hbk
  rw [befsK_eq] at h
  generalize hB : befs ops.toList [] = B at h
  generalize hst : strikes ops.toList B 0 ops.toList = st at h
  obtain ⟨p, ks⟩ := st
  simp only at h
  obtain ⟨l, sE, hc, hl, hk⟩ := regD_chain hΦ _ _ _ h
  have hs0 := hs.strike p ks
  generalize hs0' : Den.strike p ks s = s0 at hc hs0
  have hlen : l.length = ops.size := by rw [← Array.length_toList, ← hl, List.length_map]
  have hget : ∀ (j : Nat) (el : El), l[j]? = some el → ops[j]? = some el.o := by
    intro j el h1
    rw [← Array.getElem?_toList, ← hl, List.getElem?_map, h1]; rfl
  have hop : ∀ (j : Nat) (o : Oper), ops[j]? = some o → ∃ el, l[j]? = some el ∧ el.o = o := by
    intro j o h1
    rw [← Array.getElem?_toList, ← hl, List.getElem?_map, Option.map_eq_some_iff] at h1
    exact h1
  have hpair : ∀ i j a b, i < j → l[i]? = some a → l[j]? = some b → okPair (bef B i j) a b = true := by
    have := hc.pairs (fun i j a b _ h => by simp at h)
    simpa using this
  have hfresh : Fresh l s0 := by
    refine ⟨fun el hel => ?_, ?_⟩
    · obtain ⟨j, hj⟩ := List.getElem?_of_mem hel
      obtain ⟨eff, want, tch, he⟩ := hc.own j el hj
      have ho : ops.toList[j]? = some el.o := by rw [Array.getElem?_toList]; exact hget j el hj
      have := strikes_get ops.toList B ops.toList 0 j el.o ho el.o eff want tch rfl
      rw [hst] at this
      simp only [List.length_nil] at he
      rw [← he] at this
      rw [← hs0']
      exact strike_clean this.1 this.2 s
    · rw [List.pairwise_iff_getElem]
      intro i j hi hj hij
      exact okPair_clean (hpair i j _ _ hij (List.getElem?_eq_getElem hi) (List.getElem?_eq_getElem hj))
  refine wp_region_any hmix ?_
  -- whatever is listed
  have main : ∀ (fuel : Nat) (listed : Array Bool) (a : Act) (w : World) (x : X), listed.size = ops.size → listed.toList.count false ≤ fuel → Down ops.toList (fun j => listed.getD j false) →
      StOk e x w (stage (fun j => listed.getD j false) 0 l s0) a → wpAny e.P .any ops Q fuel listed a w := by
    intro fuel
    -- all listed
    have fin : ∀ (listed : Array Bool) (a : Act) (w : World) (x : X), listed.size = ops.size → Region.ready .any ops listed = [] → Down ops.toList (fun j => listed.getD j false) →
        StOk e x w (stage (fun j => listed.getD j false) 0 l s0) a → Q .normal a w := by
      intro listed a w x hsz hr hd hs
      have hall : ∀ (n j : Nat), j ≤ n → j < ops.size → listed.getD j false = true := by
        intro n
        induction n with
        | zero =>
          intro j hj hlt
          cases hlj : listed.getD j false with
          | true => rfl
          | false =>
            exfalso
            have : j ∈ Region.ready .any ops listed := by
              rw [mem_ready]
              refine ⟨by simp [hsz, hlt] at hlj ⊢; exact hlj, ops[j], by simp [hlt], fun ed hed hbd => ?_⟩
              have := backs_get hbk j ops[j] (by simp [hlt]) ed.on (bindsOf_mem.2 ⟨ed, by simpa using hed, hbd, rfl⟩)
              omega
            rw [hr] at this; cases this
        | succ n ih =>
          intro j hj hlt
          cases hlj : listed.getD j false with
          | true => rfl
          | false =>
            exfalso
            have : j ∈ Region.ready .any ops listed := by
              rw [mem_ready]
              refine ⟨by simp [hsz, hlt] at hlj ⊢; exact hlj, ops[j], by simp [hlt], fun ed hed hbd => ?_⟩
              have := backs_get hbk j ops[j] (by simp [hlt]) ed.on (bindsOf_mem.2 ⟨ed, by simpa using hed, hbd, rfl⟩)
              exact ih ed.on (by omega) (by omega)
            rw [hr] at this; cases this
      rw [stage_congr (L' := fun _ => true) l 0 s0 (fun j _ hj => hall j j (Nat.le_refl _) (by omega)), hc.done 0] at hs
      exact hK _ _ _ x w a hk hs .normal
    induction fuel with
    | zero =>
      intro listed a w x hsz hcnt hd hs
      have hr : Region.ready .any ops listed = [] := by
        cases hr : Region.ready .any ops listed with
        | nil => rfl
        | cons j js =>
          exfalso
          have hj : j ∈ Region.ready .any ops listed := by rw [hr]; exact List.mem_cons_self ..
          obtain ⟨h1, o, h2, _⟩ := mem_ready.1 hj
          have hlt : j < listed.size := by rw [hsz]; exact (Array.getElem?_eq_some_iff.1 h2).1
          have : false ∈ listed.toList := by
            rw [Array.mem_toList_iff]
            have h3 : listed[j] = false := by simpa [hlt] using h1
            rw [← h3]; exact Array.getElem_mem hlt
          have := List.count_pos_iff.2 this
          omega
      exact ⟨hr, fin listed a w x hsz hr hd hs⟩
    | succ fuel ih =>
      intro listed a w x hsz hcnt hd hs
      refine ⟨fun hr => fin listed a w x hsz hr hd hs, fun j hj => ?_⟩
      obtain ⟨hj1, o, ho, hj2⟩ := mem_ready.1 hj
      have hlt : j < ops.size := (Array.getElem?_eq_some_iff.1 ho).1
      have hlt' : j < listed.size := by omega
      obtain ⟨el, hel, rfl⟩ := hop j o ho
      have hLj : listed.getD j false = false := by simp [hlt'] at hj1 ⊢; exact hj1
      have hbj : ∀ i ∈ bindsOf el.o.after.toList, listed.getD i false = true := by
        intro i hi
        obtain ⟨ed, h1, h2, rfl⟩ := bindsOf_mem.1 hi
        exact hj2 ed (by simpa using h1) h2
      have hoj : ops.toList[j]? = some el.o := by rw [Array.getElem?_toList]; exact ho
      have hbefj : ∀ i, bef B i j = true → listed.getD i false = true := by
        intro i hb
        rw [← hB] at hb
        exact hd.bef j j (Nat.le_refl _) i el.o hoj hbj hb
      have hbehind : ∀ (k : Nat) (b : El), l[k]? = some b → j < 0 + k → listed.getD (0 + k) false = true → Swap el b := by
        intro k b hk hjk hLk
        rw [Nat.zero_add] at hjk hLk
        have := hpair j k el b hjk hel hk
        cases hb : bef B j k with
        | false => rw [hb] at this; exact Swap.of this
        | true =>
          exfalso
          rw [← hB] at hb
          have hok := hget k b hk
          have := hd.bef k k (Nat.le_refl _) j b.o (by rw [Array.getElem?_toList]; exact hok) (hd k b.o (by rw [Array.getElem?_toList]; exact hok) hLk) hb
          rw [hLj] at this; cases this
      have hahead : ∀ (k : Nat) (b : El), l[k]? = some b → 0 + k < j → listed.getD (0 + k) false = false → Swap b el := by
        intro k b hk hkj hLk
        rw [Nat.zero_add] at hkj hLk
        have := hpair k j b el hkj hk hel
        cases hb : bef B k j with
        | false => rw [hb] at this; exact Swap.of this
        | true => have := hbefj k hb; rw [hLk] at this; cases this
      have hagree := stage_agree (L := fun j => listed.getD j false) (b := el) (j := j) l 0 s0 s0 (Nat.zero_le _) (by simpa using hel) hLj hfresh hfresh (.refl _ _) hahead hbehind
      have hadd := stage_add (L := fun j => listed.getD j false) (b := el) (j := j) l 0 s0 (Nat.zero_le _) (by simpa using hel) hLj hfresh hbehind
      have hstep := hc.step 0 j el hel
      simp only [Nat.zero_add] at hstep
      -- the new list
      let listed' := listed.setIfInBounds j true
      have hL' : ∀ k, listed'.getD k false = (k == j || listed.getD k false) := by
        intro k
        by_cases hk : k = j
        · subst hk; simp [listed', hlt']
        · have : (k == j) = false := by simpa using hk
          rw [this, Bool.false_or]
          exact getD_set_ne false (Ne.symm hk)
      have hcnt' : listed'.toList.count false ≤ fuel := by
        have h3 : listed.toList[j]'(by simpa using hlt') = false := by simpa [hlt'] using hj1
        have hmem : false ∈ listed.toList := by rw [← h3]; exact List.getElem_mem _
        have hpos := List.count_pos_iff.2 hmem
        simp only [listed', Array.toList_setIfInBounds]
        rw [List.count_set (by simpa using hlt'), h3]
        simp only [beq_self_eq_true, if_true]
        have : (true == false) = false := rfl
        rw [this]
        simp only [Bool.false_eq_true, if_false]
        omega
      have hd' : Down ops.toList (fun j => listed'.getD j false) := by
        intro k o hk hLk i hi
        simp only [hL'] at hLk ⊢
        rcases Bool.or_eq_true_iff.1 hLk with h1 | h1
        · have : k = j := by simpa using h1
          subst this
          rw [hoj] at hk; cases hk
          rw [hbj i hi, Bool.or_true]
        · have := hd k o hk h1 i hi
          simp only at this
          rw [this, Bool.or_true]
      have hgo : ∀ (x' : X) (w' : World) (v : Value), StOk e x' w' (el.app (stage (fun j => listed.getD j false) 0 l s0)) (a.put el.o.dst v) → wpAny e.P .any ops Q fuel listed' (a.put el.o.dst v) w' := by
        intro x' w' v hs'
        refine ih listed' _ w' x' (by simp [listed', hsz]) hcnt' hd' ?_
        have e1 : (fun j => listed'.getD j false) = (fun k => k == j || listed.getD k false) := funext hL'
        rw [e1]
        exact ⟨hs'.inv.congr hadd.m, by rw [hadd.t]; exact hs'.tmps, hs'.defers⟩
      -- the guard
      have hguard : ∀ (g : Nat) (want b : Bool) (d : Nat), el.o.guard = some (g, want) → guardTmp ops.toList g = some d → (stage (fun k => decide (k < j)) 0 l s0).t[d]? = some (.B b) → yielded ops a.tmps g = some b := by
        intro g want b d hg hd hb
        have hdm : d ∈ el.nm := by rw [hstep.nm]; simp [names, hg, hd]
        have h1 := hagree.t d hdm
        rw [hb] at h1
        obtain ⟨_, hv⟩ := hs.setB h1
        rw [guardTmp_get, Array.getElem?_toList] at hd
        simp [yielded, hd, hv]
      unfold wpOp
      rw [ho]
      simp only
      cases hw : el.want with
      | true =>
        obtain ⟨hg, ⟨Φ', hΦ', hgive⟩, htch⟩ := hstep.yes hw
        have hwt : Region.wanted el.o (yielded ops a.tmps) = true := by
          rcases hg with hg | ⟨g, want, d, hg, hd, hb⟩
          · simp [Region.wanted, hg]
          · simp only [Region.wanted, hg, hguard g want want d hg hd hb]; simp
        rw [if_pos hwt]
        left
        have hop' := hgive Unit (fun e => if e = el.eff then some () else none) (fun _ => none)
        rw [opE_congr (t' := (stage (fun j => listed.getD j false) 0 l s0).t) (m' := (stage (fun j => listed.getD j false) 0 l s0).m)
          (fun y hy ty => ?_) (fun k hk => (hagree.m k (by rw [htch]; exact hk)).symm)] at hop'
        · simp only [if_true] at hop'
          refine op_sound hΦ' hs.inv hs.tmps ?_ (fun eff x' w' v h1 => by cases h1) hop'
          intro eff x' w' v h1 ha
          by_cases he : eff = el.eff
          · subst he
            exact hgo x' w' v (hs.apply ha el.o.dst)
          · simp only [if_neg he] at h1; cases h1
        · cases y with
          | tmp d =>
            have hdm : d ∈ el.nm := by
              rw [hstep.nm]
              unfold names
              have := tmpsOf_mem hy
              split
              · exact this
              · split
                · exact List.mem_cons_of_mem _ this
                · exact this
            exact (hagree.t d hdm).symm
          | _ => rfl
      | false =>
        obtain ⟨heff, g, want, d, hg, hd, hb⟩ := hstep.no hw
        have hwt : Region.wanted el.o (yielded ops a.tmps) = false := by
          simp only [Region.wanted, hg, hguard g want (!want) d hg hd hb]
          cases want <;> rfl
        rw [if_neg (by rw [hwt]; exact Bool.false_ne_true)]
        refine hgo x w undef ?_
        unfold El.app
        rw [heff]
        exact hs.apply (eff := .pure .junk) ⟨.junk undef, hs.inv, Ext.refl _ _ _⟩ el.o.dst
  refine main ops.size (Array.replicate ops.size false) a _ x (by simp) (by simp) ?_ ?_
  · intro j o _ hL
    simp only at hL
    exfalso
    by_cases hj : j < ops.size <;> simp [hj] at hL
  · have e1 : stage (fun j => (Array.replicate ops.size false).getD j false) 0 l s0 = s0 := by
      have : ∀ (l : List El) (n : Nat), stage (fun j => (Array.replicate ops.size false).getD j false) n l s0 = s0 := by
        intro l
        induction l with
        | nil => intro n; rfl
        | cons e l ih =>
          intro n
          have hd : (Array.replicate ops.size false).getD n false = false := by
            by_cases hj : n < ops.size <;> simp [hj]
          simp only [stage, hd, Bool.false_eq_true, if_false]; exact ih (n + 1)
      exact this l 0
    rw [e1]
    exact ⟨hs0.inv.drew, hs0.tmps, hs0.defers⟩
end Go.Den
