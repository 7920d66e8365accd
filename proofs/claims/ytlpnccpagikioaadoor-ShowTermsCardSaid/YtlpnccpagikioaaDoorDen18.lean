import Derived.Test.YtlpnccpagikioaaDoorDen17
set_option linter.unusedVariables false
set_option linter.unusedSimpArgs false
set_option linter.unusedSectionVars false
/- Drawn regions: whatever the order, the machine does what den answers. -/
namespace Go.Den

/-- An operation's step, in text order. -/
structure StepOk (P : Program) (all : List Oper) (s : St) (el : El) : Prop where
  nm : el.nm = names all el.o
  yes : el.want = true → (el.o.guard = none ∨ ∃ g want d, el.o.guard = some (g, want) ∧ guardTmp all g = some d ∧ s.t[d]? = some (.B want)) ∧ Gives P s.t s.m el.o el.eff ∧ el.tch = touch P s.t el.o
  no : el.want = false → el.eff = .pure .junk ∧ ∃ g want d, el.o.guard = some (g, want) ∧ guardTmp all g = some d ∧ s.t[d]? = some (.B (!want))
inductive Chain (P : Program) (all : List Oper) (B : List (List Nat)) : List El → St → List El → St → Prop
  | nil (acc : List El) (s : St) : Chain P all B acc s [] s
  | cons (acc : List El) (s : St) (el : El) (l : List El) (s' : St) : StepOk P all s el → (∃ o eff want tch, el = El.of all B acc.length o eff want tch) → okAll B acc.length 0 acc el = true →
      Chain P all B (acc ++ [el]) (el.app s) l s' → Chain P all B acc s (el :: l) s'

theorem of_o (all : List Oper) (B : List (List Nat)) (i : Nat) (o : Oper) (eff : Eff) (want : Bool) (tch : List Nat) :
    (El.of all B i o eff want tch).o = o ∧ (El.of all B i o eff want tch).eff = eff ∧ (El.of all B i o eff want tch).want = want ∧ (El.of all B i o eff want tch).tch = tch ∧ (El.of all B i o eff want tch).nm = names all o := by
  unfold El.of; split <;> exact ⟨rfl, rfl, rfl, rfl, rfl⟩
theorem set_get {t : List AV} {d : Nat} {a : AV} (h : t[d]? = some a) : t.set d a = t := by
  apply List.ext_getElem?
  intro i
  by_cases hi : d = i
  · subst hi
    have hlt : d < t.length := (List.getElem?_eq_some_iff.1 h).1
    rw [List.getElem?_set_self hlt, h]
  · rw [List.getElem?_set_ne hi]

theorem regD_chain {P : Program} {Φ : Orc} (hΦ : OSound P Φ) {R : Type} {all : List Oper} {B : List (List Nat)} {k : St → Option R} {kp : AV → St → Option R} {res : R} :
    ∀ (rest : List Oper) (acc : List El) (s : St), regD P Φ kp all B rest acc s k = some res → (∃ l s', Chain P all B acc s l s' ∧ l.map (·.o) = rest ∧ k s' = some res) ∨
      (∃ l s' o rest' D eff, Chain P all B acc s l s' ∧ rest = l.map (·.o) ++ o :: rest' ∧ o.guard = none ∧ GivesP P s'.t s'.m o eff ∧ afters B (acc ++ l).length (all.length - ((acc ++ l).length + 1)) ((acc ++ l).length + 1) = true ∧
        freeD B (acc ++ l).length (names all o) 0 (acc ++ l) = some D ∧ kp eff.val ((St.mk (junkT D 0 s'.t) s'.m).apply none eff) = some res)
  | [], acc, s, h => .inl ⟨[], s, .nil acc s, rfl, by simpa only [regD] using h⟩
  | o :: rest, acc, s, h => by
    have lift : ∀ (el : El), StepOk P all s el → (∃ o eff want tch, el = El.of all B acc.length o eff want tch) → okAll B acc.length 0 acc el = true → el.o = o → regD P Φ kp all B rest (acc ++ [el]) (el.app s) k = some res →
        (∃ l s', Chain P all B acc s l s' ∧ l.map (·.o) = o :: rest ∧ k s' = some res) ∨
      (∃ l s' o' rest' D eff, Chain P all B acc s l s' ∧ o :: rest = l.map (·.o) ++ o' :: rest' ∧ o'.guard = none ∧ GivesP P s'.t s'.m o' eff ∧ afters B (acc ++ l).length (all.length - ((acc ++ l).length + 1)) ((acc ++ l).length + 1) = true ∧
        freeD B (acc ++ l).length (names all o') 0 (acc ++ l) = some D ∧ kp eff.val ((St.mk (junkT D 0 s'.t) s'.m).apply none eff) = some res) := by
      intro el h1 h2 h3 h4 h5
      rcases regD_chain hΦ rest _ _ h5 with ⟨l, s', g1, g2, g3⟩ | ⟨l, s', o', rest', D, eff, g1, g2, g3, g4, g5, g6, g7⟩
      · exact .inl ⟨el :: l, s', .cons acc s el l s' h1 h2 h3 g1, by simp [h4, g2], g3⟩
      · have e1 : acc ++ [el] ++ l = acc ++ el :: l := by simp
        rw [e1] at g5 g6
        exact .inr ⟨el :: l, s', o', rest', D, eff, .cons acc s el l s' h1 h2 h3 g1, by simp [h4, g2], g3, g4, g5, g6, g7⟩
    -- an operation that is done
    have yes : (o.guard = none ∨ ∃ g want d, o.guard = some (g, want) ∧ guardTmp all g = some d ∧ s.t[d]? = some (.B want)) → ∀ (kpx : Eff → Option R),
        (∀ eff, kpx eff = some res → o.guard = none ∧ regP kp all B acc o s eff = some res) → opE P Φ s.t s.m o (fun e =>
          let el := El.of all B acc.length o e true (touch P s.t o)
          if okAll B acc.length 0 acc el then regD P Φ kp all B rest (acc ++ [el]) (s.apply o.dst e) k else none) kpx = some res →
        (∃ l s', Chain P all B acc s l s' ∧ l.map (·.o) = o :: rest ∧ k s' = some res) ∨
      (∃ l s' o' rest' D eff, Chain P all B acc s l s' ∧ o :: rest = l.map (·.o) ++ o' :: rest' ∧ o'.guard = none ∧ GivesP P s'.t s'.m o' eff ∧ afters B (acc ++ l).length (all.length - ((acc ++ l).length + 1)) ((acc ++ l).length + 1) = true ∧
        freeD B (acc ++ l).length (names all o') 0 (acc ++ l) = some D ∧ kp eff.val ((St.mk (junkT D 0 s'.t) s'.m).apply none eff) = some res) := by
      intro hg kpx hkpx h
      rcases opE_pick hΦ h with ⟨eff, h1, h2⟩ | ⟨eff, h1, h2⟩
      · simp only at h1
        split at h1
        · rename_i hok
          obtain ⟨e1, e2, e3, e4, e5⟩ := of_o all B acc.length o eff true (touch P s.t o)
          have happ : (El.of all B acc.length o eff true (touch P s.t o)).app s = s.apply o.dst eff := by unfold El.app; rw [e1, e2]
          refine lift (El.of all B acc.length o eff true (touch P s.t o)) ⟨by rw [e5, e1], fun _ => ?_, fun hw => by rw [e3] at hw; cases hw⟩ ⟨_, _, _, _, rfl⟩ hok e1 (by rw [happ]; exact h1)
          rw [e1, e2, e4]
          exact ⟨hg, h2, rfl⟩
        · cases h1
      · obtain ⟨hgn, h3⟩ := hkpx eff h1
        unfold regP at h3
        split at h3
        · rename_i D ha hf
          rw [Eff.force_eq, St.force_eq] at h3
          exact .inr ⟨[], s, o, rest, D, eff, .nil acc s, rfl, hgn, h2, by simpa using ha, by simpa using hf, h3⟩
        · cases h3
    have no : ∀ g want d, o.guard = some (g, want) → guardTmp all g = some d → s.t[d]? = some (.B (!want)) →
        (let el := El.of all B acc.length o (.pure .junk) false []
          if okAll B acc.length 0 acc el then regD P Φ kp all B rest (acc ++ [el]) (s.apply o.dst (.pure .junk)) k else none) = some res →
        (∃ l s', Chain P all B acc s l s' ∧ l.map (·.o) = o :: rest ∧ k s' = some res) ∨
      (∃ l s' o' rest' D eff, Chain P all B acc s l s' ∧ o :: rest = l.map (·.o) ++ o' :: rest' ∧ o'.guard = none ∧ GivesP P s'.t s'.m o' eff ∧ afters B (acc ++ l).length (all.length - ((acc ++ l).length + 1)) ((acc ++ l).length + 1) = true ∧
        freeD B (acc ++ l).length (names all o') 0 (acc ++ l) = some D ∧ kp eff.val ((St.mk (junkT D 0 s'.t) s'.m).apply none eff) = some res) := by
      intro g want d hg hd hb h1
      simp only at h1
      split at h1
      · rename_i hok
        obtain ⟨e1, e2, e3, e4, e5⟩ := of_o all B acc.length o (.pure .junk) false []
        have happ : (El.of all B acc.length o (.pure .junk) false []).app s = s.apply o.dst (.pure .junk) := by unfold El.app; rw [e1, e2]
        refine lift (El.of all B acc.length o (.pure .junk) false []) ⟨by rw [e5, e1], fun hw => (by rw [e3] at hw; cases hw), fun _ => ?_⟩ ⟨_, _, _, _, rfl⟩ hok e1 (by rw [happ]; exact h1)
        rw [e1, e2]
        exact ⟨rfl, g, want, d, hg, hd, hb⟩
      · cases h1
    simp only [regD, regN_eq] at h
    split at h
    · rename_i hg; exact yes (.inl hg) _ (fun eff he => ⟨hg, he⟩) h
    · rename_i g want hg
      split at h
      · cases h
      · rename_i d hd
        split at h
        · rename_i b hb
          cases b <;> cases want <;> simp only at h <;> rw [set_get hb] at h
          · exact yes (.inr ⟨g, false, d, hg, hd, hb⟩) _ (fun eff he => by cases he) h
          · exact no g true d hg hd hb h
          · exact no g false d hg hd hb h
          · exact yes (.inr ⟨g, true, d, hg, hd, hb⟩) _ (fun eff he => by cases he) h
        · cases h

/-! what a chain knows -/
theorem okAll_get {B : List (List Nat)} {j : Nat} {b : El} : ∀ {l : List El} {i : Nat}, okAll B j i l b = true → ∀ k a, l[k]? = some a → okPair (bef B (i + k) j) a b = true
  | [], i, _, k, a, h => by simp at h
  | c :: l, i, h, 0, a, ha => by
    simp only [okAll, Bool.and_eq_true] at h
    simp at ha; subst ha; exact h.1
  | c :: l, i, h, k + 1, a, ha => by
    simp only [okAll, Bool.and_eq_true] at h
    have := okAll_get h.2 k a (by simpa using ha)
    rw [← this]; congr 2; omega
theorem Chain.pairs {P : Program} {all : List Oper} {B : List (List Nat)} : ∀ {acc : List El} {s : St} {l : List El} {s' : St}, Chain P all B acc s l s' →
    (∀ i j a b, i < j → acc[i]? = some a → acc[j]? = some b → okPair (bef B i j) a b = true) →
    ∀ i j a b, i < j → (acc ++ l)[i]? = some a → (acc ++ l)[j]? = some b → okPair (bef B i j) a b = true
  | _, _, _, _, .nil acc s, h => by simpa using h
  | _, _, _, _, .cons acc s el l s' _ _ hok hc, h => by
    have := hc.pairs (fun i j a b hij ha hb => by
      by_cases hj : j < acc.length
      · rw [List.getElem?_append_left hj] at hb
        rw [List.getElem?_append_left (by omega)] at ha
        exact h i j a b hij ha hb
      · have hj2 : j = acc.length := by
          have := (List.getElem?_eq_some_iff.1 hb).1
          simp at this; omega
        subst hj2
        simp at hb; subst hb
        rw [List.getElem?_append_left hij] at ha
        have := okAll_get hok i a ha
        simpa using this)
    simpa using this
theorem Chain.step {P : Program} {all : List Oper} {B : List (List Nat)} : ∀ {acc : List El} {s : St} {l : List El} {s' : St}, Chain P all B acc s l s' → ∀ (i j : Nat) (el : El), l[j]? = some el → StepOk P all (stage (fun k => decide (k < i + j)) i l s) el
  | _, _, _, _, .nil acc s, i, j, el, h => by simp at h
  | _, _, _, _, .cons acc s e l s' hs _ _ hc, i, 0, el, h => by
    simp at h; subst h
    have hn : ∀ (l : List El) (n : Nat), i ≤ n → stage (fun k => decide (k < i + 0)) n l s = s := by
      intro l
      induction l with
      | nil => intro n _; rfl
      | cons e l ih => intro n hn; have hd : decide (n < i + 0) = false := decide_eq_false (by omega); simp only [stage, hd, Bool.false_eq_true, if_false]; exact ih (n + 1) (by omega)
    rw [hn _ _ (Nat.le_refl _)]; exact hs
  | _, _, _, _, .cons acc s e l s' hs _ _ hc, i, j + 1, el, h => by
    have hd : decide (i < i + (j + 1)) = true := decide_eq_true (by omega)
    simp only [stage, hd, if_true]
    have := hc.step (i + 1) j el (by simpa using h)
    rw [show i + 1 + j = i + (j + 1) by omega] at this
    exact this
theorem Chain.done {P : Program} {all : List Oper} {B : List (List Nat)} : ∀ {acc : List El} {s : St} {l : List El} {s' : St}, Chain P all B acc s l s' → ∀ i, stage (fun _ => true) i l s = s'
  | _, _, _, _, .nil acc s, i => rfl
  | _, _, _, _, .cons acc s e l s' hs _ _ hc, i => by simp only [stage, if_true]; exact hc.done (i + 1)
theorem strikes_get (all : List Oper) (B : List (List Nat)) : ∀ (l : List Oper) (i : Nat) (j : Nat) (o : Oper), l[j]? = some o → ∀ o' eff want tch, o' = o →
    (∀ k ∈ (El.of all B (i + j) o' eff want tch).p, k ∈ (strikes all B i l).1) ∧ (∀ k ∈ (El.of all B (i + j) o' eff want tch).k, k ∈ (strikes all B i l).2)
  | [], i, j, o, h => by simp at h
  | o0 :: l, i, 0, o, h => by
    simp at h; subst h
    rintro o' eff want tch rfl
    simp only [strikes, Nat.add_zero]
    unfold El.of
    cases fixed B i all.length with
    | true => exact ⟨fun k hk => absurd hk List.not_mem_nil, fun k hk => absurd hk List.not_mem_nil⟩
    | false => exact ⟨fun k hk => List.mem_append_left _ hk, fun k hk => List.mem_append_left _ hk⟩
  | o0 :: l, i, j + 1, o, h => by
    intro o' eff want tch ho
    have := strikes_get all B l (i + 1) j o (by simpa using h) o' eff want tch ho
    rw [show i + 1 + j = i + (j + 1) by omega] at this
    simp only [strikes]
    cases fixed B i all.length with
    | true => exact this
    | false => exact ⟨fun k hk => List.mem_append_right _ (this.1 k hk), fun k hk => List.mem_append_right _ (this.2 k hk)⟩
theorem Chain.own {P : Program} {all : List Oper} {B : List (List Nat)} : ∀ {acc : List El} {s : St} {l : List El} {s' : St}, Chain P all B acc s l s' → ∀ j el, l[j]? = some el → ∃ eff want tch, el = El.of all B (acc.length + j) el.o eff want tch
  | _, _, _, _, .nil acc s, j, el, h => by simp at h
  | _, _, _, _, .cons acc s e l s' _ ⟨o, eff, want, tch, he⟩ _ hc, 0, el, h => by
    simp at h; subst h
    have : e.o = o := by rw [he]; exact (of_o ..).1
    exact ⟨eff, want, tch, by rw [this]; exact he⟩
  | _, _, _, _, .cons acc s e l s' _ _ _ hc, j + 1, el, h => by
    obtain ⟨eff, want, tch, h1⟩ := hc.own j el (by simpa using h)
    refine ⟨eff, want, tch, ?_⟩
    rw [h1]
    simp only [List.length_append, List.length_singleton]
    rw [show acc.length + 1 + j = acc.length + (j + 1) by omega, (of_o ..).1]
theorem strike_clean {p ks p' ks' : List Nat} (hp : ∀ k ∈ p', k ∈ p) (hk : ∀ k ∈ ks', k ∈ ks) (s : St) : CleanSt p' ks' (strike p ks s) := by
  refine ⟨cleanL_scrub (.inr ⟨hp, hk⟩), fun k cs h => ?_⟩
  simp only [strike] at h
  rw [lookup_scrubM, lookup_dropAll] at h
  obtain ⟨c0, h0, rfl⟩ := Option.map_eq_some_iff.1 h
  split at h0
  · cases h0
  · rename_i hm
    exact ⟨by rw [mem_false]; rw [mem_iff] at hm; exact fun h' => hm (hp k h'), cleanL_scrub (.inr ⟨hp, hk⟩)⟩

variable {e : Env} {R : Type} {res : R}
theorem StOk.strike {x : X} {w : World} {s : St} {a : Act} (hs : StOk e x w s a) (p ks : List Nat) : StOk e x w (strike p ks s) a := by
  refine ⟨?_, hs.tmps.scrub (Ext.refl _ _ _), hs.defers⟩
  refine hs.inv.forget (p := p) (ks := ks) (Ext.refl _ _ _) rfl (fun _ _ h => h) (fun _ _ => rfl) (fun _ _ => rfl) ?_ hs.inv.tok hs.inv.tokslot hs.inv.toktok
  intro k cs hk
  simp only [Den.strike] at hk
  rw [lookup_scrubM, lookup_dropAll] at hk
  obtain ⟨c0, h0, h1⟩ := Option.map_eq_some_iff.1 hk
  split at h0
  · cases h0
  · rename_i hm
    exact ⟨by simpa using hm, c0, h0, h1.symm⟩
theorem backsL_mem {i : Nat} : ∀ {l : List Nat}, backs.backsL i l = true → ∀ j ∈ l, j < i
  | [], _, j, h => by cases h
  | k :: l, h, j, hj => by
    simp only [backs.backsL, Bool.and_eq_true, Nat.blt_eq] at h
    rcases List.mem_cons.1 hj with h1 | h1
    · subst h1; exact h.1
    · exact backsL_mem h.2 j h1
theorem backs_get : ∀ {l : List Oper} {i : Nat}, backs i l = true → ∀ j o, l[j]? = some o → ∀ k ∈ bindsOf o.after.toList, k < i + j
  | [], i, _, j, o, h => by simp at h
  | o0 :: l, i, hb, 0, o, h => by
    simp only [backs, Bool.and_eq_true] at hb
    simp at h; subst h; exact backsL_mem hb.1
  | o0 :: l, i, hb, j + 1, o, h => by
    simp only [backs, Bool.and_eq_true] at hb
    intro k hk
    have := backs_get hb.2 j o (by simpa using h) k hk
    omega
theorem tmpsOf_mem {d : Tmp} : ∀ {l : List Operand}, .tmp d ∈ l → d ∈ tmpsOf l
  | [], h => by cases h
  | y :: l, h => by
    rcases List.mem_cons.1 h with h1 | h1
    · subst h1; simp [tmpsOf]
    · have := tmpsOf_mem h1
      cases y <;> simp [tmpsOf, this]

theorem ready_nil {ops : Array Oper} {listed : Array Bool} (hbk : backs 0 ops.toList = true) (hsz : listed.size = ops.size) (hr : Region.ready .any ops listed = []) : ∀ (n j : Nat), j ≤ n → j < ops.size → listed.getD j false = true := by
  intro n
  induction n with
  | zero =>
    intro j hj hlt
    cases hlj : listed.getD j false with
    | true => rfl
    | false =>
      exfalso
      have : j ∈ Region.ready .any ops listed := by
        rw [mem_ready]
        refine ⟨by simp [hsz, hlt] at hlj ⊢; exact hlj, ops[j], by simp [hlt], fun ed hed hbd => ?_⟩
        have := backs_get hbk j ops[j] (by simp [hlt]) ed.on (bindsOf_mem.2 ⟨ed, by simpa using hed, hbd, rfl⟩)
        omega
      rw [hr] at this; cases this
  | succ n ih =>
    intro j hj hlt
    cases hlj : listed.getD j false with
    | true => rfl
    | false =>
      exfalso
      have : j ∈ Region.ready .any ops listed := by
        rw [mem_ready]
        refine ⟨by simp [hsz, hlt] at hlj ⊢; exact hlj, ops[j], by simp [hlt], fun ed hed hbd => ?_⟩
        have := backs_get hbk j ops[j] (by simp [hlt]) ed.on (bindsOf_mem.2 ⟨ed, by simpa using hed, hbd, rfl⟩)
        exact ih ed.on (by omega) (by omega)
      rw [hr] at this; cases this

open Classical in
theorem draw_main {e : Env} (ops : Array Oper) {Q : Exit → Act → World → Prop} {l : List El} {s0 sE : St} {B : List (List Nat)} (hB : befs ops.toList [] = B) (hbk : backs 0 ops.toList = true) (hc : Chain e.P ops.toList B [] s0 l sE) (hpre : ∀ j, j < l.length → ops[j]? = (l[j]?).map (·.o)) (hle : l.length ≤ ops.size) (hfresh : Fresh l s0)
    (hfin : ∀ (listed : Array Bool) (a : Act) (w : World) (x : X), listed.size = ops.size → Region.ready .any ops listed = [] → (∀ i, listed.getD i false = true → i < l.length) → StOk e x w (stage (fun j => listed.getD j false) 0 l s0) a → Q .normal a w)
    (hout : ∀ (listed : Array Bool) (a : Act) (w : World) (x : X) (j : Nat) (K' : Act → World → Prop), listed.size = ops.size → j ∈ Region.ready .any ops listed → l.length ≤ j → Down ops.toList (fun j => listed.getD j false) → (∀ i, listed.getD i false = true → i < l.length) →
      StOk e x w (stage (fun j => listed.getD j false) 0 l s0) a → wpOp e.P ops Q j K' a w) :
    ∀ (fuel : Nat) (listed : Array Bool) (a : Act) (w : World) (x : X), listed.size = ops.size → listed.toList.count false ≤ fuel → Down ops.toList (fun j => listed.getD j false) → (∀ i, listed.getD i false = true → i < l.length) →
      StOk e x w (stage (fun j => listed.getD j false) 0 l s0) a → wpAny e.P .any ops Q fuel listed a w := by
  have hget : ∀ (j : Nat) (el : El), l[j]? = some el → ops[j]? = some el.o := by
    intro j el h1
    rw [hpre j (List.getElem?_eq_some_iff.1 h1).1, h1]; rfl
  have hop : ∀ (j : Nat) (o : Oper), ops[j]? = some o → j < l.length → ∃ el, l[j]? = some el ∧ el.o = o := by
    intro j o h1 hj
    rw [hpre j hj, Option.map_eq_some_iff] at h1
    exact h1
  have hpair : ∀ i j a b, i < j → l[i]? = some a → l[j]? = some b → okPair (bef B i j) a b = true := by
    have := hc.pairs (fun i j a b _ h => by simp at h)
    simpa using this
  intro fuel
  induction fuel with
  | zero =>
    intro listed a w x hsz hcnt hd hin hs
    have hr : Region.ready .any ops listed = [] := by
      cases hr : Region.ready .any ops listed with
      | nil => rfl
      | cons j js =>
        exfalso
        have hj : j ∈ Region.ready .any ops listed := by rw [hr]; exact List.mem_cons_self ..
        obtain ⟨h1, o, h2, _⟩ := mem_ready.1 hj
        have hlt : j < listed.size := by rw [hsz]; exact (Array.getElem?_eq_some_iff.1 h2).1
        have : false ∈ listed.toList := by
          rw [Array.mem_toList_iff]
          have h3 : listed[j] = false := by simpa [hlt] using h1
          rw [← h3]; exact Array.getElem_mem hlt
        have := List.count_pos_iff.2 this
        omega
    exact ⟨hr, hfin listed a w x hsz hr hin hs⟩
  | succ fuel ih =>
    intro listed a w x hsz hcnt hd hin hs
    refine ⟨fun hr => hfin listed a w x hsz hr hin hs, fun j hj => ?_⟩
    by_cases hjl : j < l.length
    case neg => exact hout listed a w x j _ hsz hj (by omega) hd hin hs
    obtain ⟨hj1, o, ho, hj2⟩ := mem_ready.1 hj
    have hlt : j < ops.size := (Array.getElem?_eq_some_iff.1 ho).1
    have hlt' : j < listed.size := by omega
    obtain ⟨el, hel, rfl⟩ := hop j o ho hjl
    have hLj : listed.getD j false = false := by simp [hlt'] at hj1 ⊢; exact hj1
    have hbj : ∀ i ∈ bindsOf el.o.after.toList, listed.getD i false = true := by
      intro i hi
      obtain ⟨ed, h1, h2, rfl⟩ := bindsOf_mem.1 hi
      exact hj2 ed (by simpa using h1) h2
    have hoj : ops.toList[j]? = some el.o := by rw [Array.getElem?_toList]; exact ho
    have hbefj : ∀ i, bef B i j = true → listed.getD i false = true := by
      intro i hb
      rw [← hB] at hb
      exact hd.bef j j (Nat.le_refl _) i el.o hoj hbj hb
    have hbehind : ∀ (k : Nat) (b : El), l[k]? = some b → j < 0 + k → listed.getD (0 + k) false = true → Swap el b := by
      intro k b hk hjk hLk
      rw [Nat.zero_add] at hjk hLk
      have := hpair j k el b hjk hel hk
      cases hb : bef B j k with
      | false => rw [hb] at this; exact Swap.of this
      | true =>
        exfalso
        rw [← hB] at hb
        have hok := hget k b hk
        have := hd.bef k k (Nat.le_refl _) j b.o (by rw [Array.getElem?_toList]; exact hok) (hd k b.o (by rw [Array.getElem?_toList]; exact hok) hLk) hb
        rw [hLj] at this; cases this
    have hahead : ∀ (k : Nat) (b : El), l[k]? = some b → 0 + k < j → listed.getD (0 + k) false = false → Swap b el := by
      intro k b hk hkj hLk
      rw [Nat.zero_add] at hkj hLk
      have := hpair k j b el hkj hk hel
      cases hb : bef B k j with
      | false => rw [hb] at this; exact Swap.of this
      | true => have := hbefj k hb; rw [hLk] at this; cases this
    have hagree := stage_agree (L := fun j => listed.getD j false) (b := el) (j := j) l 0 s0 s0 (Nat.zero_le _) (by simpa using hel) hLj hfresh hfresh (.refl _ _) hahead hbehind
    have hadd := stage_add (L := fun j => listed.getD j false) (b := el) (j := j) l 0 s0 (Nat.zero_le _) (by simpa using hel) hLj hfresh hbehind
    have hstep := hc.step 0 j el hel
    simp only [Nat.zero_add] at hstep
    -- the new list
    let listed' := listed.setIfInBounds j true
    have hL' : ∀ k, listed'.getD k false = (k == j || listed.getD k false) := by
      intro k
      by_cases hk : k = j
      · subst hk; simp [listed', hlt']
      · have : (k == j) = false := by simpa using hk
        rw [this, Bool.false_or]
        exact getD_set_ne false (Ne.symm hk)
    have hcnt' : listed'.toList.count false ≤ fuel := by
      have h3 : listed.toList[j]'(by simpa using hlt') = false := by simpa [hlt'] using hj1
      have hmem : false ∈ listed.toList := by rw [← h3]; exact List.getElem_mem _
      have hpos := List.count_pos_iff.2 hmem
      simp only [listed', Array.toList_setIfInBounds]
      rw [List.count_set (by simpa using hlt'), h3]
      simp only [beq_self_eq_true, if_true]
      have : (true == false) = false := rfl
      rw [this]
      simp only [Bool.false_eq_true, if_false]
      omega
    have hd' : Down ops.toList (fun j => listed'.getD j false) := by
      intro k o hk hLk i hi
      simp only [hL'] at hLk ⊢
      rcases Bool.or_eq_true_iff.1 hLk with h1 | h1
      · have : k = j := by simpa using h1
        subst this
        rw [hoj] at hk; cases hk
        rw [hbj i hi, Bool.or_true]
      · have := hd k o hk h1 i hi
        simp only at this
        rw [this, Bool.or_true]
    have hgo : ∀ (x' : X) (w' : World) (v : Value), StOk e x' w' (el.app (stage (fun j => listed.getD j false) 0 l s0)) (a.put el.o.dst v) → wpAny e.P .any ops Q fuel listed' (a.put el.o.dst v) w' := by
      intro x' w' v hs'
      refine ih listed' _ w' x' (by simp [listed', hsz]) hcnt' hd' (fun i hi => ?_) ?_
      · rw [hL'] at hi
        rcases Bool.or_eq_true_iff.1 hi with h1 | h1
        · have : i = j := by simpa using h1
          omega
        · exact hin i h1
      have e1 : (fun j => listed'.getD j false) = (fun k => k == j || listed.getD k false) := funext hL'
      rw [e1]
      exact ⟨hs'.inv.congr hadd.m, by rw [hadd.t]; exact hs'.tmps, hs'.defers⟩
    -- the guard
    have hguard : ∀ (g : Nat) (want b : Bool) (d : Nat), el.o.guard = some (g, want) → guardTmp ops.toList g = some d → (stage (fun k => decide (k < j)) 0 l s0).t[d]? = some (.B b) → yielded ops a.tmps g = some b := by
      intro g want b d hg hd hb
      have hdm : d ∈ el.nm := by rw [hstep.nm]; simp [names, hg, hd]
      have h1 := hagree.t d hdm
      rw [hb] at h1
      obtain ⟨_, hv⟩ := hs.setB h1
      rw [guardTmp_get, Array.getElem?_toList] at hd
      simp [yielded, hd, hv]
    unfold wpOp
    rw [ho]
    simp only
    cases hw : el.want with
    | true =>
      obtain ⟨hg, ⟨Φ', hΦ', hgive⟩, htch⟩ := hstep.yes hw
      have hwt : Region.wanted el.o (yielded ops a.tmps) = true := by
        rcases hg with hg | ⟨g, want, d, hg, hd, hb⟩
        · simp [Region.wanted, hg]
        · simp only [Region.wanted, hg, hguard g want want d hg hd hb]; simp
      rw [if_pos hwt]
      left
      have hop' := hgive Unit (fun e => if e = el.eff then some () else none) (fun _ => none)
      rw [opE_congr (t' := (stage (fun j => listed.getD j false) 0 l s0).t) (m' := (stage (fun j => listed.getD j false) 0 l s0).m)
        (fun y hy ty => ?_) (fun k hk => (hagree.m k (by rw [htch]; exact hk)).symm)] at hop'
      · simp only [if_true] at hop'
        refine op_sound hΦ' hs.inv hs.tmps ?_ (fun eff x' w' v h1 => by cases h1) hop'
        intro eff x' w' v h1 ha
        by_cases he : eff = el.eff
        · subst he
          exact hgo x' w' v (hs.apply ha el.o.dst)
        · simp only [if_neg he] at h1; cases h1
      · cases y with
        | tmp d =>
          have hdm : d ∈ el.nm := by
            rw [hstep.nm]
            unfold names
            have := tmpsOf_mem hy
            split
            · exact this
            · split
              · exact List.mem_cons_of_mem _ this
              · exact this
          exact (hagree.t d hdm).symm
        | _ => rfl
    | false =>
      obtain ⟨heff, g, want, d, hg, hd, hb⟩ := hstep.no hw
      have hwt : Region.wanted el.o (yielded ops a.tmps) = false := by
        simp only [Region.wanted, hg, hguard g want (!want) d hg hd hb]
        cases want <;> rfl
      rw [if_neg (by rw [hwt]; exact Bool.false_ne_true)]
      refine hgo x w undef ?_
      unfold El.app
      rw [heff]
      exact hs.apply (eff := .pure .junk) ⟨.junk undef, hs.inv, Ext.refl _ _ _⟩ el.o.dst

/-- Alike but for some temporaries. -/
structure Alk (D : List Nat) (s s' : St) : Prop where
  len : s.t.length = s'.t.length
  t : ∀ d, d ∉ D → s.t[d]? = s'.t[d]?
  m : ∀ k, lookup s.m k = lookup s'.m k
theorem setT_len (t : List AV) (d : Option Tmp) (r : AV) : (setT t d r).length = t.length := by cases d <;> simp [setT]
theorem scrubL_len (p ks : List Nat) : ∀ l : List AV, (AV.scrubL p ks l).length = l.length
  | [] => rfl
  | a :: l => by simp only [AV.scrubL, List.length_cons, scrubL_len p ks l]
theorem Alk.apply {D : List Nat} {s s' : St} (h : Alk D s s') (d : Option Tmp) (e : Eff) : Alk D (s.apply d e) (s'.apply d e) := by
  refine ⟨?_, fun i hi => ?_, fun k => ?_⟩
  · rw [apply_t, apply_t, setT_len, setT_len, scrubL_len, scrubL_len, h.len]
  · rw [apply_t, apply_t, setT_get, setT_get, scrubL_get, scrubL_get, h.t i hi]
  · rw [apply_m, apply_m, h.m]
theorem Alk.skip {D : List Nat} {s s' : St} (h : Alk D s s') {d : Option Tmp} {r : AV} (hd : ∀ i, d = some i → i ∈ D) : Alk D s (s'.apply d (.pure r)) := by
  refine ⟨?_, fun i hi => ?_, fun k => ?_⟩
  · rw [apply_t, setT_len, scrubL_len, h.len]
  · show _ = (setT s'.t d r)[i]?
    rw [setT_get, if_neg (fun hdi => hi (hd i hdi)), h.t i hi]
  · exact h.m k
theorem alk_stage {D : List Nat} {L : Nat → Bool} : ∀ (l : List El) (i : Nat) {s s' : St}, Alk D s s' → (∀ k el, l[k]? = some el → L (i + k) = true ∨ ∃ r, el.eff = .pure r ∧ ∀ d, el.o.dst = some d → d ∈ D) → Alk D (stage L i l s) (stage (fun _ => true) i l s')
  | [], i, s, s', h, _ => h
  | el :: l, i, s, s', h, hl => by
    simp only [stage, if_true]
    refine alk_stage l (i + 1) ?_ (fun k e hk => by have := hl (k + 1) e (by simpa using hk); rwa [show i + 1 + k = i + (k + 1) by omega])
    rcases hl 0 el rfl with h0 | ⟨r, hr, hd⟩
    · rw [Nat.add_zero] at h0
      rw [h0, if_pos rfl]
      exact h.apply el.o.dst el.eff
    · unfold El.app
      rw [hr]
      by_cases hL : L i = true
      · rw [if_pos hL]; exact h.apply el.o.dst (.pure r)
      · rw [if_neg hL]; exact h.skip hd
theorem freeD_spec {B : List (List Nat)} {j : Nat} {nm : List Nat} : ∀ (l : List El) (i : Nat) (D : List Nat), freeD B j nm i l = some D → (∀ d ∈ D, d ∉ nm) ∧ ∀ k el, l[k]? = some el → bef B (i + k) j = true ∨ ∃ r, el.eff = .pure r ∧ ∀ d, el.o.dst = some d → d ∈ D
  | [], i, D, h => by simp only [freeD, Option.some.injEq] at h; subst h; simp
  | el :: l, i, D, h => by
    simp only [freeD] at h
    split at h
    · cases h
    · rename_i D0 h0
      obtain ⟨g1, g2⟩ := freeD_spec l (i + 1) D0 h0
      have tailG : ∀ {D' : List Nat}, (∀ d ∈ D0, d ∈ D') → ∀ k e, l[k]? = some e → bef B (i + (k + 1)) j = true ∨ ∃ r, e.eff = .pure r ∧ ∀ d, e.o.dst = some d → d ∈ D' := by
        intro D' hD k e hk
        have := g2 k e hk
        rw [show i + 1 + k = i + (k + 1) by omega] at this
        exact this.imp id (fun ⟨r, h1, h2⟩ => ⟨r, h1, fun d hd => hD d (h2 d hd)⟩)
      split at h
      · rename_i hb
        cases h
        exact ⟨g1, fun k e hk => by
          cases k with
          | zero => exact .inl hb
          | succ k => exact tailG (fun _ h => h) k e (by simpa using hk)⟩
      · split at h
        · rename_i r d hr hd
          split at h
          · cases h
          · rename_i hmem
            cases h
            refine ⟨fun d' hd' => ?_, fun k e hk => ?_⟩
            · rcases List.mem_cons.1 hd' with rfl | hd'
              · simpa [mem_iff] using hmem
              · exact g1 d' hd'
            · cases k with
              | zero =>
                simp at hk; subst hk
                exact .inr ⟨r, hr, fun d' hd' => by rw [hd] at hd'; cases hd'; exact List.mem_cons_self ..⟩
              | succ k => exact tailG (fun _ h => List.mem_cons_of_mem _ h) k e (by simpa using hk)
        · rename_i r hr hd
          cases h
          refine ⟨g1, fun k e hk => ?_⟩
          cases k with
          | zero =>
            simp at hk; subst hk
            exact .inr ⟨r, hr, fun d' hd' => by rw [hd] at hd'; cases hd'⟩
          | succ k => exact tailG (fun _ h => h) k e (by simpa using hk)
        · cases h
theorem afters_get {B : List (List Nat)} {j : Nat} : ∀ (n i : Nat), afters B j n i = true → ∀ k, i ≤ k → k < i + n → bef B j k = true
  | 0, i, _, k, h1, h2 => by omega
  | n + 1, i, h, k, h1, h2 => by
    simp only [afters, Bool.and_eq_true] at h
    by_cases hk : k = i
    · subst hk; exact h.1
    · exact afters_get n (i + 1) h.2 k (by omega) (by omega)
theorem junkT_get (D : List Nat) : ∀ (l : List AV) (n i : Nat), (junkT D n l)[i]? = if mem (n + i) D = true then l[i]?.map (fun _ => AV.junk) else l[i]?
  | [], n, i => by simp [junkT]
  | a :: l, n, 0 => by
    simp only [junkT, List.getElem?_cons_zero, Nat.add_zero]
    split <;> simp
  | a :: l, n, i + 1 => by
    simp only [junkT, List.getElem?_cons_succ]
    rw [junkT_get D l (n + 1) i, show n + 1 + i = n + (i + 1) by omega]
theorem junkT_len (D : List Nat) : ∀ (l : List AV) (n : Nat), (junkT D n l).length = l.length
  | [], n => rfl
  | a :: l, n => by simp only [junkT, List.length_cons, junkT_len D l (n + 1)]
theorem RepL.of_get {x : X} : ∀ {l : List AV} {vs : List Value}, RepL x l vs → ∀ {l' : List AV}, l'.length = l.length → (∀ i : Nat, l'[i]? = l[i]? ∨ l'[i]? = some AV.junk) → RepL x l' vs
  | _, _, .nil, l', hlen, _ => by
    have : l' = [] := List.eq_nil_of_length_eq_zero hlen
    subst this; exact .nil
  | _, _, .cons a v l vs ha hl, [], hlen, _ => by simp at hlen
  | _, _, .cons a v l vs ha hl, b :: l', hlen, hg => by
    refine .cons b v l' vs ?_ (RepL.of_get hl (by simpa using hlen) (fun i => by simpa using hg (i + 1)))
    rcases hg 0 with h | h
    · simp at h; subst h; exact ha
    · simp at h; subst h; exact .junk v

open Classical in
theorem draw_sound {Φ : Orc} (hΦ : OSound e.P Φ) (hmix : e.P.follows .mixedOrders = true) {id : Nat} {ops : Array Oper} {K : Ex → St → Option R} {Q : Exit → Act → World → Prop} (hK : KOk e K res Q)
    {s : St} {x : X} {w : World} {a : Act} (hs : StOk e x w s a) (h : regA e.P Φ (fun v s => K (.pan v) s) ops.toList s (fun s => K .normal s) = some res) : (Code.region id ops true).wp e.P Q a w := by
  unfold regA at h
  split at h
  case isFalse => cases h
  rename_i hbk
  rw [befsK_eq] at h
  generalize hB : befs ops.toList [] = B at h
  generalize hst : strikes ops.toList B 0 ops.toList = st at h
  obtain ⟨p, ks⟩ := st
  simp only at h
  have hs0 := hs.strike p ks
  generalize hs0' : Den.strike p ks s = s0 at h hs0
  have fresh : ∀ (l : List El) (sE : St), Chain e.P ops.toList B [] s0 l sE → (∀ j, j < l.length → ops[j]? = (l[j]?).map (·.o)) → Fresh l s0 := by
    intro l sE hc hpre
    have hget : ∀ (j : Nat) (el : El), l[j]? = some el → ops[j]? = some el.o := by
      intro j el h1
      rw [hpre j (List.getElem?_eq_some_iff.1 h1).1, h1]; rfl
    have hpair : ∀ i j a b, i < j → l[i]? = some a → l[j]? = some b → okPair (bef B i j) a b = true := by
      have := hc.pairs (fun i j a b _ h => by simp at h)
      simpa using this
    refine ⟨fun el hel => ?_, ?_⟩
    · obtain ⟨j, hj⟩ := List.getElem?_of_mem hel
      obtain ⟨eff, want, tch, he⟩ := hc.own j el hj
      have ho : ops.toList[j]? = some el.o := by rw [Array.getElem?_toList]; exact hget j el hj
      have := strikes_get ops.toList B ops.toList 0 j el.o ho el.o eff want tch rfl
      rw [hst] at this
      simp only [List.length_nil] at he
      rw [← he] at this
      rw [← hs0']
      exact strike_clean this.1 this.2 s
    · rw [List.pairwise_iff_getElem]
      intro i j hi hj hij
      exact okPair_clean (hpair i j _ _ hij (List.getElem?_eq_getElem hi) (List.getElem?_eq_getElem hj))
  refine wp_region_any hmix ?_
  have hcount : (Array.replicate ops.size false).toList.count false ≤ ops.size := by simp
  have hinit : ∀ l : List El, StOk e x w.drew (stage (fun j => (Array.replicate ops.size false).getD j false) 0 l s0) a := by
    intro l
    have e1 : stage (fun j => (Array.replicate ops.size false).getD j false) 0 l s0 = s0 := by
      have : ∀ (l : List El) (n : Nat), stage (fun j => (Array.replicate ops.size false).getD j false) n l s0 = s0 := by
        intro l
        induction l with
        | nil => intro n; rfl
        | cons e l ih =>
          intro n
          have hd : (Array.replicate ops.size false).getD n false = false := by
            by_cases hj : n < ops.size <;> simp [hj]
          simp only [stage, hd, Bool.false_eq_true, if_false]; exact ih (n + 1)
      exact this l 0
    rw [e1]
    exact ⟨hs0.inv.drew, hs0.tmps, hs0.defers⟩
  have hnone : ∀ j, (Array.replicate ops.size false).getD j false ≠ true := by
    intro j hL
    by_cases hj : j < ops.size <;> simp [hj] at hL
  rcases regD_chain hΦ _ _ _ h with ⟨l, sE, hc, hl, hk⟩ | ⟨l, sE, o, rest, D, eff, hc, hl, hgn, ⟨Φ', hΦ', hgive⟩, haft, hfree, hk⟩
  · have hlen : l.length = ops.size := by rw [← Array.length_toList, ← hl, List.length_map]
    have hpre : ∀ j, j < l.length → ops[j]? = (l[j]?).map (·.o) := by
      intro j _
      rw [← Array.getElem?_toList, ← hl, List.getElem?_map]
    refine draw_main ops hB hbk hc hpre (by omega) (fresh l sE hc hpre) ?_ ?_ ops.size (Array.replicate ops.size false) a _ x (by simp) hcount (fun j o _ hL => absurd hL (hnone j)) (fun i hi => absurd hi (hnone i)) (hinit l)
    · intro listed a w x hsz hr hin hs
      rw [stage_congr (L' := fun _ => true) l 0 s0 (fun j _ hj => ready_nil hbk hsz hr j j (Nat.le_refl _) (by omega)), hc.done 0] at hs
      exact hK _ _ _ x w a hk hs .normal
    · intro listed a w x j K' hsz hj hle
      exfalso
      obtain ⟨_, o, ho, _⟩ := mem_ready.1 hj
      have := (Array.getElem?_eq_some_iff.1 ho).1
      omega
  · have hsize : l.length < ops.size := by
      rw [← Array.length_toList, hl]; simp
    have hpre : ∀ j, j < l.length → ops[j]? = (l[j]?).map (·.o) := by
      intro j hj
      rw [← Array.getElem?_toList, hl, List.getElem?_append_left (by simpa using hj), List.getElem?_map]
    have ho : ops[l.length]? = some o := by
      rw [← Array.getElem?_toList, hl, List.getElem?_append_right (by simp)]; simp
    simp only [List.nil_append] at haft hfree
    obtain ⟨hD1, hD2⟩ := freeD_spec l 0 D hfree
    refine draw_main ops hB hbk hc hpre (by omega) (fresh l sE hc hpre) ?_ ?_ ops.size (Array.replicate ops.size false) a _ x (by simp) hcount (fun j o _ hL => absurd hL (hnone j)) (fun i hi => absurd hi (hnone i)) (hinit l)
    · intro listed a w x hsz hr hin hs
      exfalso
      have := hin l.length (ready_nil hbk hsz hr l.length l.length (Nat.le_refl _) hsize)
      omega
    · intro listed a w x j K' hsz hj hle hd hin hs
      obtain ⟨_, o', ho', hj2⟩ := mem_ready.1 hj
      have hjlt : j < ops.size := (Array.getElem?_eq_some_iff.1 ho').1
      have hbind : ∀ i ∈ bindsOf o'.after.toList, listed.getD i false = true := by
        intro i hi
        obtain ⟨ed, h1, h2, rfl⟩ := bindsOf_mem.1 hi
        exact hj2 ed (by simpa using h1) h2
      have hoj : ops.toList[j]? = some o' := by rw [Array.getElem?_toList]; exact ho'
      have hbefj : ∀ i, bef B i j = true → listed.getD i false = true := by
        intro i hb
        rw [← hB] at hb
        exact hd.bef j j (Nat.le_refl _) i o' hoj hbind hb
      by_cases hjl : j = l.length
      · subst hjl
        rw [ho] at ho'
        cases ho'
        have hal : Alk D (stage (fun j => listed.getD j false) 0 l s0) sE := by
          rw [← hc.done 0]
          refine alk_stage l 0 ⟨rfl, fun _ _ => rfl, fun _ => rfl⟩ (fun k el hk => (hD2 k el hk).imp (fun hb => hbefj _ hb) (fun h => h))
        unfold wpOp
        rw [ho]
        simp only
        rw [if_pos (by simp [Region.wanted, hgn])]
        left
        have hop' := hgive Unit (fun _ => none) (fun e => if e = eff then some () else none)
        rw [opE_congr (t' := (stage (fun j => listed.getD j false) 0 l s0).t) (m' := (stage (fun j => listed.getD j false) 0 l s0).m)
          (fun y hy ty => ?_) (fun k _ => (hal.m k).symm)] at hop'
        · simp only [if_true] at hop'
          refine op_sound hΦ' hs.inv hs.tmps (fun eff x' w' v h1 => by cases h1) ?_ hop'
          intro eff' x' w' v h1 ha
          by_cases he : eff' = eff
          · subst he
            obtain ⟨g1, g2⟩ := hs.apply_none ha
            have hal' := hal.apply none eff'
            refine hK (.pan eff'.val) _ _ x' w' a hk ⟨g1.inv.congr (fun k => ?_), ?_, g1.defers⟩ (.pan _ v g2)
            · rw [hal'.m k, apply_m, apply_m]
            · refine g1.tmps.of_get ?_ (fun i => ?_)
              · rw [apply_t, apply_t, setT_len, setT_len, scrubL_len, scrubL_len, junkT_len, hal.len]
              · rw [apply_t, apply_t]
                show (AV.scrubL _ _ (junkT D 0 sE.t))[i]? = (AV.scrubL _ _ _)[i]? ∨ _
                rw [scrubL_get, scrubL_get, junkT_get, Nat.zero_add]
                by_cases hi : mem i D = true
                · rw [if_pos hi]
                  cases hx : sE.t[i]? with
                  | none =>
                    left
                    have : (stage (fun j => listed.getD j false) 0 l s0).t[i]? = none := by
                      rw [List.getElem?_eq_none_iff, hal.len, ← List.getElem?_eq_none_iff]; exact hx
                    rw [this]; rfl
                  | some y => right; show (AV.scrubL _ _ (junkT D 0 sE.t))[i]? = some .junk; rw [scrubL_get, junkT_get, Nat.zero_add, if_pos hi, hx]; rfl
                · rw [if_neg hi]
                  left
                  rw [hal.t i (fun hmem => hi (mem_iff.2 hmem))]
          · simp only [if_neg he] at h1; cases h1
        · cases y with
          | tmp d =>
            have hdm : d ∈ names ops.toList o := by
              unfold names
              rw [hgn]
              exact tmpsOf_mem hy
            exact (hal.t d (fun hm => hD1 d hm hdm)).symm
          | _ => rfl
      · exfalso
        have hlt : j < l.length + 1 + (ops.toList.length - (l.length + 1)) := by rw [show ops.toList.length = ops.size from Array.length_toList]; omega
        have h1 := afters_get _ _ haft j (by omega) hlt
        have := hin l.length (hbefj l.length h1)
        omega
end Go.Den
