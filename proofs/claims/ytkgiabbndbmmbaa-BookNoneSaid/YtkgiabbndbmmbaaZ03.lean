import Derived.Test.YtkgiabbndbmmbaaZ02
import Derived.OpenShut
import Derived.ShutString
import Derived.ChangeOld
import Derived.SizedLaws
import Derived.Carry
import Derived.Recover
import Derived.Test.YtkgiabbndbmmbaaZ00
import Derived.KernelRfl
set_option linter.unusedVariables false
set_option linter.unusedSimpArgs false
set_option linter.unusedSectionVars false
namespace Go.Den

structure StepOk (P : Program) (all : List Oper) (s : St) (el : El) : Prop where
 nm : el.nm = names all el.o
 yes : el.want = true → (el.o.guard = none ∨ ∃ g want d, el.o.guard = some (g, want) ∧ guardTmp all g = some d ∧ s.t[d]? = some (.B want)) ∧ Gives P s.t s.m el.o el.eff ∧ el.tch = touch P s.t s.m el.o
 no : el.want = false → el.eff = .pure .junk ∧ ∃ g want d, el.o.guard = some (g, want) ∧ guardTmp all g = some d ∧ s.t[d]? = some (.B (!want))
inductive Chain (P : Program) (hs : List Nat) (all : List Oper) (B : List (List Nat)) : List El → St → List El → St → Prop
 |nil (acc : List El) (s : St) : Chain P hs all B acc s [] s
 |cons (acc : List El) (s : St) (el : El) (l : List El) (s' : St) : StepOk P all s el → (∃ o eff want tch, el = El.of hs all B acc.length o eff want tch) → okAll B acc.length 0 acc el = true →
   Chain P hs all B (acc ++ [el]) (el.app s) l s' → Chain P hs all B acc s (el :: l) s'

theorem of_o (hs : List Nat) (all : List Oper) (B : List (List Nat)) (i : Nat) (o : Oper) (eff : Eff) (want : Bool) (tch : List Nat) :
  (El.of hs all B i o eff want tch).o = o ∧ (El.of hs all B i o eff want tch).eff = eff ∧ (El.of hs all B i o eff want tch).want = want ∧ (El.of hs all B i o eff want tch).tch = tch ∧ (El.of hs all B i o eff want tch).nm = names all o := by
 unfold El.of; split <;> exact ⟨rfl, rfl, rfl, rfl, rfl⟩
theorem set_get {t : List AV} {d : Nat} {a : AV} (h : t[d]? = some a) : t.set d a = t := by
 apply List.ext_getElem?
 intro i
 by_cases hi : d = i
 ·subst hi
  have hlt : d < t.length := (List.getElem?_eq_some_iff.1 h).1
  rw [List.getElem?_set_self hlt, h]
 ·rw [List.getElem?_set_ne hi]

theorem regD_chain {P : Program} {Φ : Orc} (hΦ : OSound P Φ) {R : Type} {all : List Oper} {B : List (List Nat)} {k : St → Option R} {kp : AV → St → Option R} {res : R} :
  ∀ (rest : List Oper) (acc : List El) (s : St), regD P Φ kp all B rest acc s k = some res → (∃ l s', Chain P Φ.hs all B acc s l s' ∧ l.map (·.o) = rest ∧ k s' = some res) ∨
   (∃ l s' o rest' D eff, Chain P Φ.hs all B acc s l s' ∧ rest = l.map (·.o) ++ o :: rest' ∧ o.guard = none ∧ GivesP P s'.t s'.m o eff ∧ afters B (acc ++ l).length (all.length - ((acc ++ l).length + 1)) ((acc ++ l).length + 1) = true ∧
    freeD B (acc ++ l).length (names all o) 0 (acc ++ l) = some D ∧ kp eff.val ((St.mk (junkT D 0 s'.t) s'.m).apply none eff) = some res)
 |[], acc, s, h => .inl ⟨[], s, .nil acc s, rfl, by simpa only [regD] using h⟩
 |o :: rest, acc, s, h => by
  have lift : ∀ (el : El), StepOk P all s el → (∃ o eff want tch, el = El.of Φ.hs all B acc.length o eff want tch) → okAll B acc.length 0 acc el = true → el.o = o → regD P Φ kp all B rest (acc ++ [el]) (el.app s) k = some res →
    (∃ l s', Chain P Φ.hs all B acc s l s' ∧ l.map (·.o) = o :: rest ∧ k s' = some res) ∨
   (∃ l s' o' rest' D eff, Chain P Φ.hs all B acc s l s' ∧ o :: rest = l.map (·.o) ++ o' :: rest' ∧ o'.guard = none ∧ GivesP P s'.t s'.m o' eff ∧ afters B (acc ++ l).length (all.length - ((acc ++ l).length + 1)) ((acc ++ l).length + 1) = true ∧
    freeD B (acc ++ l).length (names all o') 0 (acc ++ l) = some D ∧ kp eff.val ((St.mk (junkT D 0 s'.t) s'.m).apply none eff) = some res) := by
   intro el h1 h2 h3 h4 h5
   rcases regD_chain hΦ rest _ _ h5 with ⟨l, s', g1, g2, g3⟩ | ⟨l, s', o', rest', D, eff, g1, g2, g3, g4, g5, g6, g7⟩
   ·exact .inl ⟨el :: l, s', .cons acc s el l s' h1 h2 h3 g1, by simp [h4, g2], g3⟩
   ·have e1 : acc ++ [el] ++ l = acc ++ el :: l := by simp
    rw [e1] at g5 g6
    exact .inr ⟨el :: l, s', o', rest', D, eff, .cons acc s el l s' h1 h2 h3 g1, by simp [h4, g2], g3, g4, g5, g6, g7⟩
  -- an operation that is done
  have yes : (o.guard = none ∨ ∃ g want d, o.guard = some (g, want) ∧ guardTmp all g = some d ∧ s.t[d]? = some (.B want)) → ∀ (kpx : Eff → Option R),
    (∀ eff, kpx eff = some res → o.guard = none ∧ regP kp all B acc o s eff = some res) → opE P Φ s.t s.m o (fun e =>
     let el := El.of Φ.hs all B acc.length o e true (touch P s.t s.m o)
     if okAll B acc.length 0 acc el then regD P Φ kp all B rest (acc ++ [el]) (s.apply o.dst e) k else none) kpx = some res →
    (∃ l s', Chain P Φ.hs all B acc s l s' ∧ l.map (·.o) = o :: rest ∧ k s' = some res) ∨
   (∃ l s' o' rest' D eff, Chain P Φ.hs all B acc s l s' ∧ o :: rest = l.map (·.o) ++ o' :: rest' ∧ o'.guard = none ∧ GivesP P s'.t s'.m o' eff ∧ afters B (acc ++ l).length (all.length - ((acc ++ l).length + 1)) ((acc ++ l).length + 1) = true ∧
    freeD B (acc ++ l).length (names all o') 0 (acc ++ l) = some D ∧ kp eff.val ((St.mk (junkT D 0 s'.t) s'.m).apply none eff) = some res) := by
   intro hg kpx hkpx h
   rcases opE_pick hΦ h with ⟨eff, h1, h2⟩ | ⟨eff, h1, h2⟩
   ·simp only at h1
    split at h1
    ·rename_i hok
     obtain ⟨e1, e2, e3, e4, e5⟩ := of_o Φ.hs all B acc.length o eff true (touch P s.t s.m o)
     have happ : (El.of Φ.hs all B acc.length o eff true (touch P s.t s.m o)).app s = s.apply o.dst eff := by unfold El.app; rw [e1, e2]
     refine lift (El.of Φ.hs all B acc.length o eff true (touch P s.t s.m o)) ⟨by rw [e5, e1], fun _ => ?_, fun hw => by rw [e3] at hw; cases hw⟩ ⟨_, _, _, _, rfl⟩ hok e1 (by rw [happ]; exact h1)
     rw [e1, e2, e4]
     exact ⟨hg, h2, rfl⟩
    ·cases h1
   ·obtain ⟨hgn, h3⟩ := hkpx eff h1
    unfold regP at h3
    split at h3
    ·rename_i D ha hf
     rw [Eff.force_eq, St.force_eq] at h3
     exact .inr ⟨[], s, o, rest, D, eff, .nil acc s, rfl, hgn, h2, by simpa using ha, by simpa using hf, h3⟩
    ·cases h3
  have no : ∀ g want d, o.guard = some (g, want) → guardTmp all g = some d → s.t[d]? = some (.B (!want)) →
    (let el := El.of Φ.hs all B acc.length o (.pure .junk) false []
     if okAll B acc.length 0 acc el then regD P Φ kp all B rest (acc ++ [el]) (s.apply o.dst (.pure .junk)) k else none) = some res →
    (∃ l s', Chain P Φ.hs all B acc s l s' ∧ l.map (·.o) = o :: rest ∧ k s' = some res) ∨
   (∃ l s' o' rest' D eff, Chain P Φ.hs all B acc s l s' ∧ o :: rest = l.map (·.o) ++ o' :: rest' ∧ o'.guard = none ∧ GivesP P s'.t s'.m o' eff ∧ afters B (acc ++ l).length (all.length - ((acc ++ l).length + 1)) ((acc ++ l).length + 1) = true ∧
    freeD B (acc ++ l).length (names all o') 0 (acc ++ l) = some D ∧ kp eff.val ((St.mk (junkT D 0 s'.t) s'.m).apply none eff) = some res) := by
   intro g want d hg hd hb h1
   simp only at h1
   split at h1
   ·rename_i hok
    obtain ⟨e1, e2, e3, e4, e5⟩ := of_o Φ.hs all B acc.length o (.pure .junk) false []
    have happ : (El.of Φ.hs all B acc.length o (.pure .junk) false []).app s = s.apply o.dst (.pure .junk) := by unfold El.app; rw [e1, e2]
    refine lift (El.of Φ.hs all B acc.length o (.pure .junk) false []) ⟨by rw [e5, e1], fun hw => (by rw [e3] at hw; cases hw), fun _ => ?_⟩ ⟨_, _, _, _, rfl⟩ hok e1 (by rw [happ]; exact h1)
    rw [e1, e2]
    exact ⟨rfl, g, want, d, hg, hd, hb⟩
   ·cases h1
  simp only [regD, regN_eq] at h
  split at h
  ·rename_i hg; exact yes (.inl hg) _ (fun eff he => ⟨hg, he⟩) h
  ·rename_i g want hg
   split at h
   ·cases h
   ·rename_i d hd
    split at h
    ·rename_i b hb
     cases b <;> cases want <;> simp only at h <;> rw [set_get hb] at h
     ·exact yes (.inr ⟨g, false, d, hg, hd, hb⟩) _ (fun eff he => by cases he) h
     ·exact no g true d hg hd hb h
     ·exact no g false d hg hd hb h
     ·exact yes (.inr ⟨g, true, d, hg, hd, hb⟩) _ (fun eff he => by cases he) h
    ·cases h

theorem okAll_get {B : List (List Nat)} {j : Nat} {b : El} : ∀ {l : List El} {i : Nat}, okAll B j i l b = true → ∀ k a, l[k]? = some a → okPair (bef B (i + k) j) a b = true
 |[], i, _, k, a, h => by simp at h
 |c :: l, i, h, 0, a, ha => by
  simp only [okAll, Bool.and_eq_true] at h
  simp at ha; subst ha; exact h.1
 |c :: l, i, h, k + 1, a, ha => by
  simp only [okAll, Bool.and_eq_true] at h
  have := okAll_get h.2 k a (by simpa using ha)
  rw [← this]; congr 2; omega
theorem Chain.pairs {P : Program} {hs : List Nat} {all : List Oper} {B : List (List Nat)} : ∀ {acc : List El} {s : St} {l : List El} {s' : St}, Chain P hs all B acc s l s' →
  (∀ i j a b, i < j → acc[i]? = some a → acc[j]? = some b → okPair (bef B i j) a b = true) →
  ∀ i j a b, i < j → (acc ++ l)[i]? = some a → (acc ++ l)[j]? = some b → okPair (bef B i j) a b = true
 |_, _, _, _, .nil acc s, h => by simpa using h
 |_, _, _, _, .cons acc s el l s' _ _ hok hc, h => by
  have := hc.pairs (fun i j a b hij ha hb => by
   by_cases hj : j < acc.length
   ·rw [List.getElem?_append_left hj] at hb
    rw [List.getElem?_append_left (by omega)] at ha
    exact h i j a b hij ha hb
   ·have hj2 : j = acc.length := by
     have := (List.getElem?_eq_some_iff.1 hb).1
     simp at this; omega
    subst hj2
    simp at hb; subst hb
    rw [List.getElem?_append_left hij] at ha
    have := okAll_get hok i a ha
    simpa using this)
  simpa using this
theorem Chain.step {P : Program} {hs : List Nat} {all : List Oper} {B : List (List Nat)} : ∀ {acc : List El} {s : St} {l : List El} {s' : St}, Chain P hs all B acc s l s' → ∀ (i j : Nat) (el : El), l[j]? = some el → StepOk P all (stage (fun k => decide (k < i + j)) i l s) el
 |_, _, _, _, .nil acc s, i, j, el, h => by simp at h
 |_, _, _, _, .cons acc s e l s' hs _ _ hc, i, 0, el, h => by
  simp at h; subst h
  have hn : ∀ (l : List El) (n : Nat), i ≤ n → stage (fun k => decide (k < i + 0)) n l s = s := by
   intro l
   induction l with
   |nil => intro n _; rfl
   |cons e l ih => intro n hn; have hd : decide (n < i + 0) = false := decide_eq_false (by omega); simp only [stage, hd, Bool.false_eq_true, if_false]; exact ih (n + 1) (by omega)
  rw [hn _ _ (Nat.le_refl _)]; exact hs
 |_, _, _, _, .cons acc s e l s' hs _ _ hc, i, j + 1, el, h => by
  have hd : decide (i < i + (j + 1)) = true := decide_eq_true (by omega)
  simp only [stage, hd, if_true]
  have := hc.step (i + 1) j el (by simpa using h)
  rw [show i + 1 + j = i + (j + 1) by omega] at this
  exact this
theorem Chain.done {P : Program} {hs : List Nat} {all : List Oper} {B : List (List Nat)} : ∀ {acc : List El} {s : St} {l : List El} {s' : St}, Chain P hs all B acc s l s' → ∀ i, stage (fun _ => true) i l s = s'
 |_, _, _, _, .nil acc s, i => rfl
 |_, _, _, _, .cons acc s e l s' hs _ _ hc, i => by simp only [stage, if_true]; exact hc.done (i + 1)
theorem strikes_get (hs : List Nat) (all : List Oper) (B : List (List Nat)) : ∀ (l : List Oper) (i : Nat) (j : Nat) (o : Oper), l[j]? = some o → ∀ o' eff want tch, o' = o →
  (∀ k ∈ (El.of hs all B (i + j) o' eff want tch).p, k ∈ (strikes hs all B i l).1) ∧ (∀ k ∈ (El.of hs all B (i + j) o' eff want tch).k, k ∈ (strikes hs all B i l).2)
 |[], i, j, o, h => by simp at h
 |o0 :: l, i, 0, o, h => by
  simp at h; subst h
  rintro o' eff want tch rfl
  simp only [strikes, Nat.add_zero]
  unfold El.of
  cases fixed B i all.length with
  |true => exact ⟨fun k hk => absurd hk List.not_mem_nil, fun k hk => absurd hk List.not_mem_nil⟩
  |false => exact ⟨fun k hk => List.mem_append_left _ hk, fun k hk => List.mem_append_left _ hk⟩
 |o0 :: l, i, j + 1, o, h => by
  intro o' eff want tch ho
  have := strikes_get hs all B l (i + 1) j o (by simpa using h) o' eff want tch ho
  rw [show i + 1 + j = i + (j + 1) by omega] at this
  simp only [strikes]
  cases fixed B i all.length with
  |true => exact this
  |false => exact ⟨fun k hk => List.mem_append_right _ (this.1 k hk), fun k hk => List.mem_append_right _ (this.2 k hk)⟩
theorem Chain.own {P : Program} {hs : List Nat} {all : List Oper} {B : List (List Nat)} : ∀ {acc : List El} {s : St} {l : List El} {s' : St}, Chain P hs all B acc s l s' → ∀ j el, l[j]? = some el → ∃ eff want tch, el = El.of hs all B (acc.length + j) el.o eff want tch
 |_, _, _, _, .nil acc s, j, el, h => by simp at h
 |_, _, _, _, .cons acc s e l s' _ ⟨o, eff, want, tch, he⟩ _ hc, 0, el, h => by
  simp at h; subst h
  have : e.o = o := by rw [he]; exact (of_o ..).1
  exact ⟨eff, want, tch, by rw [this]; exact he⟩
 |_, _, _, _, .cons acc s e l s' _ _ _ hc, j + 1, el, h => by
  obtain ⟨eff, want, tch, h1⟩ := hc.own j el (by simpa using h)
  refine ⟨eff, want, tch, ?_⟩
  rw [h1]
  simp only [List.length_append, List.length_singleton]
  rw [show acc.length + 1 + j = acc.length + (j + 1) by omega, (of_o ..).1]
theorem strike_clean {p ks p' ks' : List Nat} (hp : ∀ k ∈ p', k ∈ p) (hk : ∀ k ∈ ks', k ∈ ks) (s : St) : CleanSt p' ks' (strike p ks s) := by
 refine ⟨cleanL_scrub (.inr ⟨hp, hk⟩), fun k cs h => ?_, fun k => by simp only [strike]; rw [lookup_tidyO]; exact tidyO_ne⟩
 simp only [strike] at h
 obtain ⟨h, _⟩ := tidy_get h
 rw [lookup_scrubM, lookup_dropAll] at h
 obtain ⟨c0, h0, rfl⟩ := Option.map_eq_some_iff.1 h
 split at h0
 ·cases h0
 ·rename_i hm
  exact ⟨by rw [mem_false]; rw [mem_iff] at hm; exact fun h' => hm (hp k h'), cleanL_scrub (.inr ⟨hp, hk⟩)⟩

variable {e : Env} {R : Type} {res : R}
theorem StOk.strike {x : X} {w : World} {s : St} {a : Act} (hs : StOk e x w s a) (p ks : List Nat) : StOk e x w (strike p ks s) a := by
 refine ⟨?_, hs.tmps.scrub (Ext.refl _ _ _), hs.defers⟩
 refine hs.inv.forget (p := p) (ks := ks) (Ext.refl _ _ _) rfl (fun _ _ h => h) (fun _ _ => rfl) (fun _ _ => rfl) ?_ hs.inv.tok hs.inv.tokslot hs.inv.toktok
 intro k cs hk
 simp only [Den.strike] at hk
 obtain ⟨hk, _⟩ := tidy_get hk
 rw [lookup_scrubM, lookup_dropAll] at hk
 obtain ⟨c0, h0, h1⟩ := Option.map_eq_some_iff.1 hk
 split at h0
 ·cases h0
 ·rename_i hm
  exact ⟨by simpa using hm, c0, h0, h1.symm⟩
theorem backsL_mem {i : Nat} : ∀ {l : List Nat}, backs.backsL i l = true → ∀ j ∈ l, j < i
 |[], _, j, h => by cases h
 |k :: l, h, j, hj => by
  simp only [backs.backsL, Bool.and_eq_true, Nat.blt_eq] at h
  rcases List.mem_cons.1 hj with h1 | h1
  ·subst h1; exact h.1
  ·exact backsL_mem h.2 j h1
theorem backs_get : ∀ {l : List Oper} {i : Nat}, backs i l = true → ∀ j o, l[j]? = some o → ∀ k ∈ bindsOf o.after.toList, k < i + j
 |[], i, _, j, o, h => by simp at h
 |o0 :: l, i, hb, 0, o, h => by
  simp only [backs, Bool.and_eq_true] at hb
  simp at h; subst h; exact backsL_mem hb.1
 |o0 :: l, i, hb, j + 1, o, h => by
  simp only [backs, Bool.and_eq_true] at hb
  intro k hk
  have := backs_get hb.2 j o (by simpa using h) k hk
  omega
theorem tmpsOf_mem {d : Tmp} : ∀ {l : List Operand}, .tmp d ∈ l → d ∈ tmpsOf l
 |[], h => by cases h
 |y :: l, h => by
  rcases List.mem_cons.1 h with h1 | h1
  ·subst h1; simp [tmpsOf]
  ·have := tmpsOf_mem h1
   cases y <;> simp [tmpsOf, this]

theorem ready_nil {ops : Array Oper} {listed : Array Bool} (hbk : backs 0 ops.toList = true) (hsz : listed.size = ops.size) (hr : Region.ready .any ops listed = []) : ∀ (n j : Nat), j ≤ n → j < ops.size → listed.getD j false = true := by
 intro n
 induction n with
 |zero =>
  intro j hj hlt
  cases hlj : listed.getD j false with
  |true => rfl
  |false =>
   exfalso
   have : j ∈ Region.ready .any ops listed := by
    rw [mem_ready]
    refine ⟨by simp [hsz, hlt] at hlj ⊢; exact hlj, ops[j], by simp [hlt], fun ed hed hbd => ?_⟩
    have := backs_get hbk j ops[j] (by simp [hlt]) ed.on (bindsOf_mem.2 ⟨ed, by simpa using hed, hbd, rfl⟩)
    omega
   rw [hr] at this; cases this
 |succ n ih =>
  intro j hj hlt
  cases hlj : listed.getD j false with
  |true => rfl
  |false =>
   exfalso
   have : j ∈ Region.ready .any ops listed := by
    rw [mem_ready]
    refine ⟨by simp [hsz, hlt] at hlj ⊢; exact hlj, ops[j], by simp [hlt], fun ed hed hbd => ?_⟩
    have := backs_get hbk j ops[j] (by simp [hlt]) ed.on (bindsOf_mem.2 ⟨ed, by simpa using hed, hbd, rfl⟩)
    exact ih ed.on (by omega) (by omega)
   rw [hr] at this; cases this

open Classical in
theorem draw_main {e : Env} {hs : List Nat} (ops : Array Oper) {Q : Exit → Act → World → Prop} {l : List El} {s0 sE : St} {B : List (List Nat)} (hB : befs ops.toList [] = B) (hbk : backs 0 ops.toList = true) (hc : Chain e.P hs ops.toList B [] s0 l sE) (hpre : ∀ j, j < l.length → ops[j]? = (l[j]?).map (·.o)) (hle : l.length ≤ ops.size) (hfresh : Fresh l s0)
  (hfin : ∀ (listed : Array Bool) (a : Act) (w : World) (x : X), listed.size = ops.size → Region.ready .any ops listed = [] → (∀ i, listed.getD i false = true → i < l.length) → StOk e x w (stage (fun j => listed.getD j false) 0 l s0) a → Q .normal a w)
  (hout : ∀ (listed : Array Bool) (a : Act) (w : World) (x : X) (j : Nat) (K' : Act → World → Prop), listed.size = ops.size → j ∈ Region.ready .any ops listed → l.length ≤ j → Down ops.toList (fun j => listed.getD j false) → (∀ i, listed.getD i false = true → i < l.length) →
   StOk e x w (stage (fun j => listed.getD j false) 0 l s0) a → wpOp e.P ops Q j K' a w) :
  ∀ (fuel : Nat) (listed : Array Bool) (a : Act) (w : World) (x : X), listed.size = ops.size → listed.toList.count false ≤ fuel → Down ops.toList (fun j => listed.getD j false) → (∀ i, listed.getD i false = true → i < l.length) →
   StOk e x w (stage (fun j => listed.getD j false) 0 l s0) a → wpAny e.P .any ops Q fuel listed a w := by
 have hget : ∀ (j : Nat) (el : El), l[j]? = some el → ops[j]? = some el.o := by
  intro j el h1
  rw [hpre j (List.getElem?_eq_some_iff.1 h1).1, h1]; rfl
 have hop : ∀ (j : Nat) (o : Oper), ops[j]? = some o → j < l.length → ∃ el, l[j]? = some el ∧ el.o = o := by
  intro j o h1 hj
  rw [hpre j hj, Option.map_eq_some_iff] at h1
  exact h1
 have hpair : ∀ i j a b, i < j → l[i]? = some a → l[j]? = some b → okPair (bef B i j) a b = true := by
  have := hc.pairs (fun i j a b _ h => by simp at h)
  simpa using this
 intro fuel
 induction fuel with
 |zero =>
  intro listed a w x hsz hcnt hd hin hs
  have hr : Region.ready .any ops listed = [] := by
   cases hr : Region.ready .any ops listed with
   |nil => rfl
   |cons j js =>
    exfalso
    have hj : j ∈ Region.ready .any ops listed := by rw [hr]; exact List.mem_cons_self ..
    obtain ⟨h1, o, h2, _⟩ := mem_ready.1 hj
    have hlt : j < listed.size := by rw [hsz]; exact (Array.getElem?_eq_some_iff.1 h2).1
    have : false ∈ listed.toList := by
     rw [Array.mem_toList_iff]
     have h3 : listed[j] = false := by simpa [hlt] using h1
     rw [← h3]; exact Array.getElem_mem hlt
    have := List.count_pos_iff.2 this
    omega
  exact ⟨hr, hfin listed a w x hsz hr hin hs⟩
 |succ fuel ih =>
  intro listed a w x hsz hcnt hd hin hs
  refine ⟨fun hr => hfin listed a w x hsz hr hin hs, fun j hj => ?_⟩
  by_cases hjl : j < l.length
  case neg => exact hout listed a w x j _ hsz hj (by omega) hd hin hs
  obtain ⟨hj1, o, ho, hj2⟩ := mem_ready.1 hj
  have hlt : j < ops.size := (Array.getElem?_eq_some_iff.1 ho).1
  have hlt' : j < listed.size := by omega
  obtain ⟨el, hel, rfl⟩ := hop j o ho hjl
  have hLj : listed.getD j false = false := by simp [hlt'] at hj1 ⊢; exact hj1
  have hbj : ∀ i ∈ bindsOf el.o.after.toList, listed.getD i false = true := by
   intro i hi
   obtain ⟨ed, h1, h2, rfl⟩ := bindsOf_mem.1 hi
   exact hj2 ed (by simpa using h1) h2
  have hoj : ops.toList[j]? = some el.o := by rw [Array.getElem?_toList]; exact ho
  have hbefj : ∀ i, bef B i j = true → listed.getD i false = true := by
   intro i hb
   rw [← hB] at hb
   exact hd.bef j j (Nat.le_refl _) i el.o hoj hbj hb
  have hbehind : ∀ (k : Nat) (b : El), l[k]? = some b → j < 0 + k → listed.getD (0 + k) false = true → Swap el b := by
   intro k b hk hjk hLk
   rw [Nat.zero_add] at hjk hLk
   have := hpair j k el b hjk hel hk
   cases hb : bef B j k with
   |false => rw [hb] at this; exact Swap.of this
   |true =>
    exfalso
    rw [← hB] at hb
    have hok := hget k b hk
    have := hd.bef k k (Nat.le_refl _) j b.o (by rw [Array.getElem?_toList]; exact hok) (hd k b.o (by rw [Array.getElem?_toList]; exact hok) hLk) hb
    rw [hLj] at this; cases this
  have hahead : ∀ (k : Nat) (b : El), l[k]? = some b → 0 + k < j → listed.getD (0 + k) false = false → Swap b el := by
   intro k b hk hkj hLk
   rw [Nat.zero_add] at hkj hLk
   have := hpair k j b el hkj hk hel
   cases hb : bef B k j with
   |false => rw [hb] at this; exact Swap.of this
   |true => have := hbefj k hb; rw [hLk] at this; cases this
  have hagree := stage_agree (L := fun j => listed.getD j false) (b := el) (j := j) l 0 s0 s0 (Nat.zero_le _) (by simpa using hel) hLj hfresh hfresh (.refl _ _) hahead hbehind
  have hadd := stage_add (L := fun j => listed.getD j false) (b := el) (j := j) l 0 s0 (Nat.zero_le _) (by simpa using hel) hLj hfresh hbehind
  have hstep := hc.step 0 j el hel
  simp only [Nat.zero_add] at hstep
  -- the new list
  let listed' := listed.setIfInBounds j true
  have hL' : ∀ k, listed'.getD k false = (k == j || listed.getD k false) := by
   intro k
   by_cases hk : k = j
   ·subst hk; simp [listed', hlt']
   ·have : (k == j) = false := by simpa using hk
    rw [this, Bool.false_or]
    exact getD_set_ne false (Ne.symm hk)
  have hcnt' : listed'.toList.count false ≤ fuel := by
   have h3 : listed.toList[j]'(by simpa using hlt') = false := by simpa [hlt'] using hj1
   have hmem : false ∈ listed.toList := by rw [← h3]; exact List.getElem_mem _
   have hpos := List.count_pos_iff.2 hmem
   simp only [listed', Array.toList_setIfInBounds]
   rw [List.count_set (by simpa using hlt'), h3]
   simp only [beq_self_eq_true, if_true]
   have : (true == false) = false := rfl
   rw [this]
   simp only [Bool.false_eq_true, if_false]
   omega
  have hd' : Down ops.toList (fun j => listed'.getD j false) := by
   intro k o hk hLk i hi
   simp only [hL'] at hLk ⊢
   rcases Bool.or_eq_true_iff.1 hLk with h1 | h1
   ·have : k = j := by simpa using h1
    subst this
    rw [hoj] at hk; cases hk
    rw [hbj i hi, Bool.or_true]
   ·have := hd k o hk h1 i hi
    simp only at this
    rw [this, Bool.or_true]
  have hgo : ∀ (x' : X) (w' : World) (v : Value), StOk e x' w' (el.app (stage (fun j => listed.getD j false) 0 l s0)) (a.put el.o.dst v) → wpAny e.P .any ops Q fuel listed' (a.put el.o.dst v) w' := by
   intro x' w' v hs'
   refine ih listed' _ w' x' (by simp [listed', hsz]) hcnt' hd' (fun i hi => ?_) ?_
   ·rw [hL'] at hi
    rcases Bool.or_eq_true_iff.1 hi with h1 | h1
    ·have : i = j := by simpa using h1
     omega
    ·exact hin i h1
   have e1 : (fun j => listed'.getD j false) = (fun k => k == j || listed.getD k false) := funext hL'
   rw [e1]
   exact ⟨hs'.inv.congr hadd.m, by rw [hadd.t]; exact hs'.tmps, hs'.defers⟩
  -- the guard
  have hguard : ∀ (g : Nat) (want b : Bool) (d : Nat), el.o.guard = some (g, want) → guardTmp ops.toList g = some d → (stage (fun k => decide (k < j)) 0 l s0).t[d]? = some (.B b) → yielded ops a.tmps g = some b := by
   intro g want b d hg hd hb
   have hdm : d ∈ el.nm := by rw [hstep.nm]; simp [names, hg, hd]
   have h1 := hagree.t d hdm
   rw [hb] at h1
   obtain ⟨_, hv⟩ := hs.setB h1
   rw [guardTmp_get, Array.getElem?_toList] at hd
   simp [yielded, hd, hv]
  unfold wpOp
  rw [ho]
  simp only
  cases hw : el.want with
  |true =>
   obtain ⟨hg, ⟨Φ', hΦ', hgive⟩, htch⟩ := hstep.yes hw
   have hwt : Region.wanted el.o (yielded ops a.tmps) = true := by
    rcases hg with hg | ⟨g, want, d, hg, hd, hb⟩
    ·simp [Region.wanted, hg]
    ·simp only [Region.wanted, hg, hguard g want want d hg hd hb]; simp
   rw [if_pos hwt]
   left
   have hop' := hgive Unit (fun e => if e = el.eff then some () else none) (fun _ => none)
   rw [opE_congr (t' := (stage (fun j => listed.getD j false) 0 l s0).t) (m' := (stage (fun j => listed.getD j false) 0 l s0).m)
    (fun y hy ty => ?_) (fun k hk => (hagree.m k (by rw [htch]; exact hk)).symm)] at hop'
   ·simp only [if_true] at hop'
    refine op_sound hΦ' hs.inv hs.tmps ?_ (fun eff x' w' v h1 => by cases h1) hop'
    intro eff x' w' v h1 ha
    by_cases he : eff = el.eff
    ·subst he
     exact hgo x' w' v (hs.apply ha el.o.dst)
    ·simp only [if_neg he] at h1; cases h1
   ·cases y with
    |tmp d =>
     have hdm : d ∈ el.nm := by
      rw [hstep.nm]
      unfold names
      have := tmpsOf_mem hy
      split
      ·exact this
      ·split
       ·exact List.mem_cons_of_mem _ this
       ·exact this
     exact (hagree.t d hdm).symm
    |_ => rfl
  |false =>
   obtain ⟨heff, g, want, d, hg, hd, hb⟩ := hstep.no hw
   have hwt : Region.wanted el.o (yielded ops a.tmps) = false := by
    simp only [Region.wanted, hg, hguard g want (!want) d hg hd hb]
    cases want <;> rfl
   rw [if_neg (by rw [hwt]; exact Bool.false_ne_true)]
   refine hgo x w undef ?_
   unfold El.app
   rw [heff]
   exact hs.apply (eff := .pure .junk) ⟨.junk undef, hs.inv, Ext.refl _ _ _⟩ el.o.dst

structure Alk (D : List Nat) (s s' : St) : Prop where
 len : s.t.length = s'.t.length
 t : ∀ d, d ∉ D → s.t[d]? = s'.t[d]?
 m : ∀ k, lookup s.m k = lookup s'.m k
theorem setT_len (t : List AV) (d : Option Tmp) (r : AV) : (setT t d r).length = t.length := by cases d <;> simp [setT]
theorem scrubL_len (p ks : List Nat) : ∀ l : List AV, (AV.scrubL p ks l).length = l.length
 |[] => rfl
 |a :: l => by simp only [AV.scrubL, List.length_cons, scrubL_len p ks l]
theorem Alk.apply {D : List Nat} {s s' : St} (h : Alk D s s') (d : Option Tmp) (e : Eff) : Alk D (s.apply d e) (s'.apply d e) := by
 refine ⟨?_, fun i hi => ?_, fun k => ?_⟩
 ·rw [apply_t, apply_t, setT_len, setT_len, scrubL_len, scrubL_len, h.len]
 ·rw [apply_t, apply_t, setT_get, setT_get, scrubL_get, scrubL_get, h.t i hi]
 ·rw [apply_m, apply_m, h.m]
theorem Alk.skip {D : List Nat} {s s' : St} (h : Alk D s s') {d : Option Tmp} {r : AV} (hd : ∀ i, d = some i → i ∈ D) : Alk D s (s'.apply d (.pure r)) := by
 refine ⟨?_, fun i hi => ?_, fun k => ?_⟩
 ·rw [apply_t, setT_len, scrubL_len, h.len]
 ·show _ = (setT s'.t d r)[i]?
  rw [setT_get, if_neg (fun hdi => hi (hd i hdi)), h.t i hi]
 ·exact h.m k
theorem alk_stage {D : List Nat} {L : Nat → Bool} : ∀ (l : List El) (i : Nat) {s s' : St}, Alk D s s' → (∀ k el, l[k]? = some el → L (i + k) = true ∨ ∃ r, el.eff = .pure r ∧ ∀ d, el.o.dst = some d → d ∈ D) → Alk D (stage L i l s) (stage (fun _ => true) i l s')
 |[], i, s, s', h, _ => h
 |el :: l, i, s, s', h, hl => by
  simp only [stage, if_true]
  refine alk_stage l (i + 1) ?_ (fun k e hk => by have := hl (k + 1) e (by simpa using hk); rwa [show i + 1 + k = i + (k + 1) by omega])
  rcases hl 0 el rfl with h0 | ⟨r, hr, hd⟩
  ·rw [Nat.add_zero] at h0
   rw [h0, if_pos rfl]
   exact h.apply el.o.dst el.eff
  ·unfold El.app
   rw [hr]
   by_cases hL : L i = true
   ·rw [if_pos hL]; exact h.apply el.o.dst (.pure r)
   ·rw [if_neg hL]; exact h.skip hd
theorem freeD_spec {B : List (List Nat)} {j : Nat} {nm : List Nat} : ∀ (l : List El) (i : Nat) (D : List Nat), freeD B j nm i l = some D → (∀ d ∈ D, d ∉ nm) ∧ ∀ k el, l[k]? = some el → bef B (i + k) j = true ∨ ∃ r, el.eff = .pure r ∧ ∀ d, el.o.dst = some d → d ∈ D
 |[], i, D, h => by simp only [freeD, Option.some.injEq] at h; subst h; simp
 |el :: l, i, D, h => by
  simp only [freeD] at h
  split at h
  ·cases h
  ·rename_i D0 h0
   obtain ⟨g1, g2⟩ := freeD_spec l (i + 1) D0 h0
   have tailG : ∀ {D' : List Nat}, (∀ d ∈ D0, d ∈ D') → ∀ k e, l[k]? = some e → bef B (i + (k + 1)) j = true ∨ ∃ r, e.eff = .pure r ∧ ∀ d, e.o.dst = some d → d ∈ D' := by
    intro D' hD k e hk
    have := g2 k e hk
    rw [show i + 1 + k = i + (k + 1) by omega] at this
    exact this.imp id (fun ⟨r, h1, h2⟩ => ⟨r, h1, fun d hd => hD d (h2 d hd)⟩)
   split at h
   ·rename_i hb
    cases h
    exact ⟨g1, fun k e hk => by
     cases k with
     |zero => exact .inl hb
     |succ k => exact tailG (fun _ h => h) k e (by simpa using hk)⟩
   ·split at h
    ·rename_i r d hr hd
     split at h
     ·cases h
     ·rename_i hmem
      cases h
      refine ⟨fun d' hd' => ?_, fun k e hk => ?_⟩
      ·rcases List.mem_cons.1 hd' with rfl | hd'
       ·simpa [mem_iff] using hmem
       ·exact g1 d' hd'
      ·cases k with
       |zero =>
        simp at hk; subst hk
        exact .inr ⟨r, hr, fun d' hd' => by rw [hd] at hd'; cases hd'; exact List.mem_cons_self ..⟩
       |succ k => exact tailG (fun _ h => List.mem_cons_of_mem _ h) k e (by simpa using hk)
    ·rename_i r hr hd
     cases h
     refine ⟨g1, fun k e hk => ?_⟩
     cases k with
     |zero =>
      simp at hk; subst hk
      exact .inr ⟨r, hr, fun d' hd' => by rw [hd] at hd'; cases hd'⟩
     |succ k => exact tailG (fun _ h => h) k e (by simpa using hk)
    ·cases h
theorem afters_get {B : List (List Nat)} {j : Nat} : ∀ (n i : Nat), afters B j n i = true → ∀ k, i ≤ k → k < i + n → bef B j k = true
 |0, i, _, k, h1, h2 => by omega
 |n + 1, i, h, k, h1, h2 => by
  simp only [afters, Bool.and_eq_true] at h
  by_cases hk : k = i
  ·subst hk; exact h.1
  ·exact afters_get n (i + 1) h.2 k (by omega) (by omega)
theorem junkT_get (D : List Nat) : ∀ (l : List AV) (n i : Nat), (junkT D n l)[i]? = if mem (n + i) D = true then l[i]?.map (fun _ => AV.junk) else l[i]?
 |[], n, i => by simp [junkT]
 |a :: l, n, 0 => by
  simp only [junkT, List.getElem?_cons_zero, Nat.add_zero]
  split <;> simp
 |a :: l, n, i + 1 => by
  simp only [junkT, List.getElem?_cons_succ]
  rw [junkT_get D l (n + 1) i, show n + 1 + i = n + (i + 1) by omega]
theorem junkT_len (D : List Nat) : ∀ (l : List AV) (n : Nat), (junkT D n l).length = l.length
 |[], n => rfl
 |a :: l, n => by simp only [junkT, List.length_cons, junkT_len D l (n + 1)]
theorem RepL.of_get {x : X} : ∀ {l : List AV} {vs : List Value}, RepL x l vs → ∀ {l' : List AV}, l'.length = l.length → (∀ i : Nat, l'[i]? = l[i]? ∨ l'[i]? = some AV.junk) → RepL x l' vs
 |_, _, .nil, l', hlen, _ => by
  have : l' = [] := List.eq_nil_of_length_eq_zero hlen
  subst this; exact .nil
 |_, _, .cons a v l vs ha hl, [], hlen, _ => by simp at hlen
 |_, _, .cons a v l vs ha hl, b :: l', hlen, hg => by
  refine .cons b v l' vs ?_ (RepL.of_get hl (by simpa using hlen) (fun i => by simpa using hg (i + 1)))
  rcases hg 0 with h | h
  ·simp at h; subst h; exact ha
  ·simp at h; subst h; exact .junk v

open Classical in
theorem draw_sound {Φ : Orc} (hΦ : OSound e.P Φ) (hmix : e.P.follows .mixedOrders = true) {id : Nat} {ops : Array Oper} {K : Ex → St → Option R} {Q : Exit → Act → World → Prop} (hK : KOk e K res Q)
  {s : St} {x : X} {w : World} {a : Act} (hs : StOk e x w s a) (h : regA e.P Φ (fun v s => K (.pan v) s) ops.toList s (fun s => K .normal s) = some res) : (Code.region id ops true).wp e.P Q a w := by
 unfold regA at h
 split at h
 case isFalse => cases h
 rename_i hbk
 rw [befsK_eq] at h
 generalize hB : befs ops.toList [] = B at h
 generalize hst : strikes Φ.hs ops.toList B 0 ops.toList = st at h
 obtain ⟨p, ks⟩ := st
 simp only at h
 have hs0 := hs.strike p ks
 generalize hs0' : Den.strike p ks s = s0 at h hs0
 have fresh : ∀ (l : List El) (sE : St), Chain e.P Φ.hs ops.toList B [] s0 l sE → (∀ j, j < l.length → ops[j]? = (l[j]?).map (·.o)) → Fresh l s0 := by
  intro l sE hc hpre
  have hget : ∀ (j : Nat) (el : El), l[j]? = some el → ops[j]? = some el.o := by
   intro j el h1
   rw [hpre j (List.getElem?_eq_some_iff.1 h1).1, h1]; rfl
  have hpair : ∀ i j a b, i < j → l[i]? = some a → l[j]? = some b → okPair (bef B i j) a b = true := by
   have := hc.pairs (fun i j a b _ h => by simp at h)
   simpa using this
  refine ⟨fun el hel => ?_, ?_⟩
  ·obtain ⟨j, hj⟩ := List.getElem?_of_mem hel
   obtain ⟨eff, want, tch, he⟩ := hc.own j el hj
   have ho : ops.toList[j]? = some el.o := by rw [Array.getElem?_toList]; exact hget j el hj
   have := strikes_get Φ.hs ops.toList B ops.toList 0 j el.o ho el.o eff want tch rfl
   rw [hst] at this
   simp only [List.length_nil] at he
   rw [← he] at this
   rw [← hs0']
   exact strike_clean this.1 this.2 s
  ·rw [List.pairwise_iff_getElem]
   intro i j hi hj hij
   exact okPair_clean (hpair i j _ _ hij (List.getElem?_eq_getElem hi) (List.getElem?_eq_getElem hj))
 refine wp_region_any hmix ?_
 have hcount : (Array.replicate ops.size false).toList.count false ≤ ops.size := by simp
 have hinit : ∀ l : List El, StOk e x w.drew (stage (fun j => (Array.replicate ops.size false).getD j false) 0 l s0) a := by
  intro l
  have e1 : stage (fun j => (Array.replicate ops.size false).getD j false) 0 l s0 = s0 := by
   have : ∀ (l : List El) (n : Nat), stage (fun j => (Array.replicate ops.size false).getD j false) n l s0 = s0 := by
    intro l
    induction l with
    |nil => intro n; rfl
    |cons e l ih =>
     intro n
     have hd : (Array.replicate ops.size false).getD n false = false := by
      by_cases hj : n < ops.size <;> simp [hj]
     simp only [stage, hd, Bool.false_eq_true, if_false]; exact ih (n + 1)
   exact this l 0
  rw [e1]
  exact ⟨hs0.inv.drew, hs0.tmps, hs0.defers⟩
 have hnone : ∀ j, (Array.replicate ops.size false).getD j false ≠ true := by
  intro j hL
  by_cases hj : j < ops.size <;> simp [hj] at hL
 rcases regD_chain hΦ _ _ _ h with ⟨l, sE, hc, hl, hk⟩ | ⟨l, sE, o, rest, D, eff, hc, hl, hgn, ⟨Φ', hΦ', hgive⟩, haft, hfree, hk⟩
 ·have hlen : l.length = ops.size := by rw [← Array.length_toList, ← hl, List.length_map]
  have hpre : ∀ j, j < l.length → ops[j]? = (l[j]?).map (·.o) := by
   intro j _
   rw [← Array.getElem?_toList, ← hl, List.getElem?_map]
  refine draw_main ops hB hbk hc hpre (by omega) (fresh l sE hc hpre) ?_ ?_ ops.size (Array.replicate ops.size false) a _ x (by simp) hcount (fun j o _ hL => absurd hL (hnone j)) (fun i hi => absurd hi (hnone i)) (hinit l)
  ·intro listed a w x hsz hr hin hs
   rw [stage_congr (L' := fun _ => true) l 0 s0 (fun j _ hj => ready_nil hbk hsz hr j j (Nat.le_refl _) (by omega)), hc.done 0] at hs
   exact hK _ _ _ x w a hk hs .normal
  ·intro listed a w x j K' hsz hj hle
   exfalso
   obtain ⟨_, o, ho, _⟩ := mem_ready.1 hj
   have := (Array.getElem?_eq_some_iff.1 ho).1
   omega
 ·have hsize : l.length < ops.size := by
   rw [← Array.length_toList, hl]; simp
  have hpre : ∀ j, j < l.length → ops[j]? = (l[j]?).map (·.o) := by
   intro j hj
   rw [← Array.getElem?_toList, hl, List.getElem?_append_left (by simpa using hj), List.getElem?_map]
  have ho : ops[l.length]? = some o := by
   rw [← Array.getElem?_toList, hl, List.getElem?_append_right (by simp)]; simp
  simp only [List.nil_append] at haft hfree
  obtain ⟨hD1, hD2⟩ := freeD_spec l 0 D hfree
  refine draw_main ops hB hbk hc hpre (by omega) (fresh l sE hc hpre) ?_ ?_ ops.size (Array.replicate ops.size false) a _ x (by simp) hcount (fun j o _ hL => absurd hL (hnone j)) (fun i hi => absurd hi (hnone i)) (hinit l)
  ·intro listed a w x hsz hr hin hs
   exfalso
   have := hin l.length (ready_nil hbk hsz hr l.length l.length (Nat.le_refl _) hsize)
   omega
  ·intro listed a w x j K' hsz hj hle hd hin hs
   obtain ⟨_, o', ho', hj2⟩ := mem_ready.1 hj
   have hjlt : j < ops.size := (Array.getElem?_eq_some_iff.1 ho').1
   have hbind : ∀ i ∈ bindsOf o'.after.toList, listed.getD i false = true := by
    intro i hi
    obtain ⟨ed, h1, h2, rfl⟩ := bindsOf_mem.1 hi
    exact hj2 ed (by simpa using h1) h2
   have hoj : ops.toList[j]? = some o' := by rw [Array.getElem?_toList]; exact ho'
   have hbefj : ∀ i, bef B i j = true → listed.getD i false = true := by
    intro i hb
    rw [← hB] at hb
    exact hd.bef j j (Nat.le_refl _) i o' hoj hbind hb
   by_cases hjl : j = l.length
   ·subst hjl
    rw [ho] at ho'
    cases ho'
    have hal : Alk D (stage (fun j => listed.getD j false) 0 l s0) sE := by
     rw [← hc.done 0]
     refine alk_stage l 0 ⟨rfl, fun _ _ => rfl, fun _ => rfl⟩ (fun k el hk => (hD2 k el hk).imp (fun hb => hbefj _ hb) (fun h => h))
    unfold wpOp
    rw [ho]
    simp only
    rw [if_pos (by simp [Region.wanted, hgn])]
    left
    have hop' := hgive Unit (fun _ => none) (fun e => if e = eff then some () else none)
    rw [opE_congr (t' := (stage (fun j => listed.getD j false) 0 l s0).t) (m' := (stage (fun j => listed.getD j false) 0 l s0).m)
     (fun y hy ty => ?_) (fun k _ => (hal.m k).symm)] at hop'
    ·simp only [if_true] at hop'
     refine op_sound hΦ' hs.inv hs.tmps (fun eff x' w' v h1 => by cases h1) ?_ hop'
     intro eff' x' w' v h1 ha
     by_cases he : eff' = eff
     ·subst he
      obtain ⟨g1, g2⟩ := hs.apply_none ha
      have hal' := hal.apply none eff'
      refine hK (.pan eff'.val) _ _ x' w' a hk ⟨g1.inv.congr (fun k => ?_), ?_, g1.defers⟩ (.pan _ v g2)
      ·rw [hal'.m k, apply_m, apply_m]
      ·refine g1.tmps.of_get ?_ (fun i => ?_)
       ·rw [apply_t, apply_t, setT_len, setT_len, scrubL_len, scrubL_len, junkT_len, hal.len]
       ·rw [apply_t, apply_t]
        show (AV.scrubL _ _ (junkT D 0 sE.t))[i]? = (AV.scrubL _ _ _)[i]? ∨ _
        rw [scrubL_get, scrubL_get, junkT_get, Nat.zero_add]
        by_cases hi : mem i D = true
        ·rw [if_pos hi]
         cases hx : sE.t[i]? with
         |none =>
          left
          have : (stage (fun j => listed.getD j false) 0 l s0).t[i]? = none := by
           rw [List.getElem?_eq_none_iff, hal.len, ← List.getElem?_eq_none_iff]; exact hx
          rw [this]; rfl
         |some y => right; show (AV.scrubL _ _ (junkT D 0 sE.t))[i]? = some .junk; rw [scrubL_get, junkT_get, Nat.zero_add, if_pos hi, hx]; rfl
        ·rw [if_neg hi]
         left
         rw [hal.t i (fun hmem => hi (mem_iff.2 hmem))]
     ·simp only [if_neg he] at h1; cases h1
    ·cases y with
     |tmp d =>
      have hdm : d ∈ names ops.toList o := by
       unfold names
       rw [hgn]
       exact tmpsOf_mem hy
      exact (hal.t d (fun hm => hD1 d hm hdm)).symm
     |_ => rfl
   ·exfalso
    have hlt : j < l.length + 1 + (ops.toList.length - (l.length + 1)) := by rw [show ops.toList.length = ops.size from Array.length_toList]; omega
    have h1 := afters_get _ _ haft j (by omega) hlt
    have := hin l.length (hbefj l.length h1)
    omega
end Go.Den
namespace Go.Den
open Go.ChangeShapes Go.WideShapes Go.RowKit

def structT (P : Program) (g : TypeId → Option (List Kd)) : Nat → List Field → Option (List Kd)
 |_, [] => some []
 |off, f :: fs => match g f.type with
  |some ks => if Nat.beq f.offset off && Nat.beq (P.cellsOf f.type) ks.length then (match structT P g (off + ks.length) fs with | some l => some (ks ++ l) | none => none) else none
  |none => none
def Kd.wide : Kd → Nat × Nat
 | .b => (1, 1)
 | .i k => (k.bits / 8, k.bits / 8)
 | .s => (16, 8)
 | .sl _ => (24, 8)
 | .o => (8, 8)
def laidTo : List Kd → Nat → Nat → Nat
 |[], off, al => (off + al - 1) / al * al
 |k :: ks, off, al => laidTo ks ((off + k.wide.2 - 1) / k.wide.2 * k.wide.2 + k.wide.1) (max al k.wide.2)
def kbytes (ks : List Kd) : Nat := laidTo ks 0 1
def kdsT (P : Program) : Nat → TypeId → Option (List Kd)
 |0, _ => none
 |n + 1, t => match P.underlying t with
  |some .bool => some [.b]
  |some (.int k) => some [.i k]
  |some .string => some [.s]
  |some (.slice e) => match kdsT P n e with
   |some ks => if Nat.beq (P.cellsOf e) ks.length && Nat.blt 0 ks.length && Nat.blt 0 (P.bytesOf e) && Nat.ble (kbytes ks) (P.bytesOf e) then some [.sl ks] else none
   |none => none
  |some (.struct fs) => match structT P (kdsT P n) 0 fs.toList with
   |some ks => if Nat.beq (P.cellsOf t) ks.length then some ks else none
   |none => none
  |some (.array l e) => match kdsT P n e with
   |some ks => if Nat.beq (P.cellsOf e) ks.length && Nat.beq (P.cellsOf t) (l * ks.length) then some (List.flatten (List.replicate l ks)) else none
   |none => none
  |_ => none

mutual
def DV.Fine : DV → Prop
 | .val (.int k n) => (Lit.int k n).wf = true
 | .val (.string s) => s.size ≤ reachBytes
 | .val _ => True
 | .sl nl ks rows => rows.length ≤ reachBytes ∧ (nl = true → rows = []) ∧ RowsFine ks rows ∧ rows.length * kbytes ks ≤ reachBytes
def RowFine : List DV → Prop
 |[] => True
 |d :: r => d.Fine ∧ RowFine r
def RowsFine (ks : List Kd) : List (List DV) → Prop
 |[] => True
 |r :: l => Row.ofKds ks r = true ∧ RowFine r ∧ RowsFine ks l
end
theorem RowFine.append : ∀ {r : Row}, RowFine r → ∀ {r' : Row}, RowFine r' → RowFine (r ++ r')
 |[], _, _, h => h
 |d :: r, h, _, h' => by
  unfold RowFine at h ⊢
  exact ⟨h.1, h.2.append h'⟩
mutual
theorem sameK : ∀ (k : Kd), Kd.same k k = true
 | .b => rfl
 | .i k => by simp [Kd.same]
 | .s => rfl
 | .sl a => by unfold Kd.same; exact sameKL a
 | .o => rfl
theorem sameKL : ∀ (l : List Kd), Kd.sameL l l = true
 |[] => rfl
 |k :: l => by unfold Kd.sameL; rw [sameK k, sameKL l]; rfl
end

section
variable {H : Type} {enc : TypeId × Value → H} {P : Program} {w : World} {spare : Nat → Bool} {held : Bool}
def cellsM (w : World) : Mm := fun b o => w.cell? ⟨b, o, none⟩
def Opens (w : World) (ks : List Kd) (cs : List Value) : Prop := ∃ row : Row, Row.ofKds ks row = true ∧ CellsV (cellsM w) row cs ∧ RowFine row

theorem open_fields {m : Nat} {cs : List Value} {g : TypeId → Option (List Kd)}
  (ih : ∀ t ks cs x, g t = some ks → DataW.trod enc P w 0 spare held m t cs = some x → (∀ q ∈ x.1.weights P t, q ≤ reachBytes) → Opens w ks cs) :
  ∀ (fl : List Field) (xl : List (DataW H × List MemPlace)) (off : Nat) (ks : List Kd), structT P g off fl = some ks → xl.length = fl.length →
   (∀ (i : Nat) (f : Field), fl[i]? = some f → DataW.trod enc P w 0 spare held m f.type ((cs.drop f.offset).take (P.cellsOf f.type)) = xl[i]?) →
   (∀ q ∈ DataW.weightsEach P (fl.map (·.type)) (xl.map (·.1)), q ≤ reachBytes) → Opens w ks ((cs.drop off).take ks.length)
 |[], xl, off, ks, hg, _, _, _ => by
  simp only [structT] at hg
  cases hg
  exact ⟨[], rfl, by simpa using CellsV.nil, trivial⟩
 |f :: fl, [], off, ks, hg, hlen, _, _ => by simp at hlen
 |f :: fl, x :: xl, off, ks, hg, hlen, hx, hw => by
  simp only [structT] at hg
  split at hg
  ·rename_i k0 hk0
   split at hg
   ·rename_i hc
    split at hg
    ·rename_i l hl
     cases hg
     simp only [Bool.and_eq_true, beq_eq] at hc
     have h0 := hx 0 f rfl
     rw [hc.1, hc.2] at h0
     simp only [List.getElem?_cons_zero] at h0
     simp only [List.map_cons, DataW.weightsEach, List.mem_append] at hw
     obtain ⟨r0, a1, a2, a3⟩ := ih f.type k0 _ x hk0 h0 (fun q hq => hw q (.inl hq))
     obtain ⟨r1, b1, b2, b3⟩ := open_fields ih fl xl (off + k0.length) l hl (by simpa using hlen) (fun i f' hf => by have := hx (i + 1) f' (by simpa using hf); simpa using this) (fun q hq => hw q (.inr hq))
     refine ⟨r0 ++ r1, ofKds_append a1 b1, ?_, a3.append b3⟩
     rw [List.length_append, List.take_add, List.drop_drop]
     exact a2.append b2
    ·cases hg
   ·cases hg
  ·cases hg

theorem weights_all_mem {e : TypeId} : ∀ {l : List (DataW H)} {d : DataW H}, d ∈ l → ∀ q ∈ d.weights P e, q ∈ DataW.weightsAll P e l
 |c :: l, d, h, q, hq => by
  simp only [DataW.weightsAll, List.mem_append]
  rcases List.mem_cons.1 h with h | h
  ·subst h; exact .inl hq
  ·exact .inr (weights_all_mem h q hq)

theorem open_array {m : Nat} {cs : List Value} {e : TypeId} {k0 : List Kd}
  (ih : ∀ cs x, DataW.trod enc P w 0 spare held m e cs = some x → (∀ q ∈ x.1.weights P e, q ≤ reachBytes) → Opens w k0 cs) :
  ∀ (l : Nat) (xl : List (DataW H × List MemPlace)) (off : Nat), xl.length = l →
   (∀ i, i < l → DataW.trod enc P w 0 spare held m e ((cs.drop (off + i * k0.length)).take k0.length) = xl[i]?) →
   (∀ x ∈ xl, ∀ q ∈ x.1.weights P e, q ≤ reachBytes) → Opens w (List.flatten (List.replicate l k0)) ((cs.drop off).take (l * k0.length))
 |0, xl, off, _, _, _ => ⟨[], rfl, by simpa using CellsV.nil, trivial⟩
 |l + 1, [], off, hlen, _, _ => by simp at hlen
 |l + 1, x :: xl, off, hlen, hx, hw => by
  have h0 := hx 0 (by omega)
  simp only [Nat.zero_mul, Nat.add_zero, List.getElem?_cons_zero] at h0
  obtain ⟨r0, a1, a2, a3⟩ := ih _ x h0 (hw x (List.mem_cons_self ..))
  obtain ⟨r1, b1, b2, b3⟩ := open_array ih l xl (off + k0.length) (by simpa using hlen) (fun i hi => by
   have := hx (i + 1) (by omega)
   simp only [List.getElem?_cons_succ] at this
   rw [← this, Nat.add_mul]; congr 3; omega) (fun y hy => hw y (List.mem_cons_of_mem _ hy))
  refine ⟨r0 ++ r1, by rw [List.replicate_succ, List.flatten_cons]; exact ofKds_append a1 b1, ?_, a3.append b3⟩
  rw [Nat.add_mul, Nat.one_mul, Nat.add_comm, List.take_add, List.drop_drop]
  exact a2.append b2

theorem CellsV.at {w : World} {b : Nat} : ∀ {r : Row} {cs : List Value} {o : Nat}, CellsV (cellsM w) r cs → (∀ i, i < cs.length → w.cell? ⟨b, o + i, none⟩ = cs[i]?) → CellsAt (cellsM w) b o r
 |_, _, o, .nil, _ => .nil b o
 |_, _, o, .cons d v r vs h1 h2, h => by
  refine .cons b o d v r ?_ h1 (h2.at fun i hi => ?_)
  ·have := h 0 (by simp); simpa [cellsM] using this
  ·have := h (i + 1) (by simp; omega)
   simp only [List.getElem?_cons_succ] at this
   rw [← this]; congr 2; omega

theorem open_rows {m : Nat} {e : TypeId} {k0 : List Kd} {b : Nat} (hc : P.cellsOf e = k0.length)
  (ih : ∀ cs x, DataW.trod enc P w 0 spare held m e cs = some x → (∀ q ∈ x.1.weights P e, q ≤ reachBytes) → Opens w k0 cs) :
  ∀ (xl : List (DataW H × List MemPlace)) (o : Nat), (∀ i, i < xl.length → (w.cells? 0 ⟨b, o + i * k0.length, none⟩ k0.length).bind (DataW.trod enc P w 0 spare held m e) = xl[i]?) →
   (∀ x ∈ xl, ∀ q ∈ x.1.weights P e, q ≤ reachBytes) → ∃ rows : Rows, rows.length = xl.length ∧ RowsAt (cellsM w) b o k0 rows ∧ RowsFine k0 rows
 |[], o, _, _ => ⟨[], rfl, .nil b o k0, trivial⟩
 |x :: xl, o, hx, hw => by
  have h0 := hx 0 (by simp)
  simp only [Nat.zero_mul, Nat.add_zero, List.getElem?_cons_zero] at h0
  obtain ⟨cs, h1, h2⟩ := Option.bind_eq_some_iff.1 h0
  obtain ⟨_, hl, hcell⟩ := World.cells?_some h1
  obtain ⟨r0, a1, a2, a3⟩ := ih _ x h2 (hw x (List.mem_cons_self ..))
  obtain ⟨rows, b1, b2, b3⟩ := open_rows hc ih xl (o + k0.length) (fun i hi => by
   have := hx (i + 1) (by simp; omega)
   simp only [List.getElem?_cons_succ] at this
   rw [← this, Nat.add_mul]; congr 3; omega) (fun y hy => hw y (List.mem_cons_of_mem _ hy))
  refine ⟨r0 :: rows, by simp [b1], .cons b o k0 r0 rows a1 (a2.at fun i hi => ?_) b2, ?_⟩
  ·rw [← hcell i (by omega)]
   unfold Addr.add
   by_cases h : i = 0
   ·subst h; rfl
   ·rw [if_neg h]
  ·unfold RowsFine; exact ⟨a1, a3, b3⟩

theorem open_row : ∀ (n : Nat) (t : TypeId) (ks : List Kd) (fuel : Nat) (cs : List Value) (x : DataW H × List MemPlace), kdsT P n t = some ks → DataW.trod enc P w 0 spare held fuel t cs = some x →
  (∀ q ∈ x.1.weights P t, q ≤ reachBytes) → Opens w ks cs
 |0, t, ks, fuel, cs, x, hk, _, _ => by simp [kdsT] at hk
 |n + 1, t, ks, fuel, cs, x, hk, h, hw => by
  simp only [kdsT] at hk
  split at hk
  ·rename_i hu
   cases hk
   obtain ⟨b, rfl, rfl⟩ := DataW.trod_bool hu h
   exact ⟨[.val (.bool b)], rfl, .cons _ _ _ _ (.val _ rfl) .nil, trivial, trivial⟩
  ·rename_i k hu
   cases hk
   obtain ⟨i, rfl, rfl, hf⟩ := DataW.trod_int hu h
   exact ⟨[.val (.int k i)], by simp [Row.ofKds, DV.ofKd], .cons _ _ _ _ (.val _ rfl) .nil, hf, trivial⟩
  ·rename_i hu
   cases hk
   obtain ⟨s, rfl, rfl, hs⟩ := DataW.trod_string hu h
   refine ⟨[.val (.string s)], rfl, .cons _ _ _ _ (.val _ rfl) .nil, ?_, trivial⟩
   have := hw s.data.toList.length (by simp [DataW.weights])
   simpa [DV.Fine] using this
  ·rename_i e hu
   split at hk
   ·rename_i k0 hk0
    split at hk
    ·rename_i hc
     cases hk
     simp only [Bool.and_eq_true, beq_eq, Nat.blt_eq, Nat.ble_eq] at hc
     obtain ⟨⟨⟨hc1, hc2⟩, hc3⟩, hc4⟩ := hc
     rcases DataW.trod_slice hu h with ⟨rfl, rfl⟩ | ⟨a, len, cap, elems, rest, m, rfl, rfl, rfl, _, hlc, hcm, hlen, hel, _, _⟩
     ·exact ⟨[.sl true k0 []], by simp [Row.ofKds, DV.ofKd, sameKL], .cons _ _ _ _ (.nil k0) .nil, ⟨Nat.zero_le _, fun _ => rfl, trivial, by rw [List.length_nil, Nat.zero_mul]; exact Nat.zero_le _⟩, trivial⟩
     ·simp only [DataW.weights, hu] at hw
      have hbig := hw _ (List.mem_cons_self ..)
      simp only [List.length_map] at hbig
      have hsz : elems.length ≤ reachBytes := by
       refine Nat.le_trans ?_ hbig
       exact Nat.le_trans (Nat.le_add_right _ rest.length) (Nat.le_mul_of_pos_right _ hc3)
      have hkb : elems.length * kbytes k0 ≤ reachBytes := Nat.le_trans (Nat.mul_le_mul (Nat.le_add_right _ rest.length) hc4) hbig
      have hw' : ∀ x ∈ elems, ∀ q ∈ x.1.weights P e, q ≤ reachBytes := fun x hx q hq => hw q (List.mem_cons_of_mem _ (List.mem_append_left _ (weights_all_mem (List.mem_map_of_mem hx) q hq)))
      have ih : ∀ cs x, DataW.trod enc P w 0 spare held m e cs = some x → (∀ q ∈ x.1.weights P e, q ≤ reachBytes) → Opens w k0 cs := fun cs x h1 h2 => open_row n e k0 m cs x hk0 h1 h2
      by_cases h0 : len = 0
      ·subst h0
       have : elems = [] := List.eq_nil_of_length_eq_zero hlen
       subst this
       refine ⟨[.sl false k0 []], by simp [Row.ofKds, DV.ofKd, sameKL], .cons _ _ _ _ (.sl k0 [] a cap (by simp) (fun h => absurd rfl h) (.nil _ _ _)) .nil, ⟨Nat.zero_le _, fun _ => rfl, trivial, by rw [List.length_nil, Nat.zero_mul]; exact Nat.zero_le _⟩, trivial⟩
      ·have hspot : a.spot = none := by
        have h1 := hel 0 (by omega)
        have hx0 : ∃ y, elems[0]? = some y := ⟨elems[0]'(by omega), by simp⟩
        obtain ⟨y, hy⟩ := hx0
        rw [hy] at h1
        obtain ⟨cs, h2, _⟩ := Option.bind_eq_some_iff.1 h1
        obtain ⟨_, hl2, hcell⟩ := World.cells?_some h2
        have := hcell 0 (by omega)
        rw [List.getElem?_eq_getElem (by omega)] at this
        simp only [Nat.zero_mul, Addr.add, if_true] at this
        unfold World.cell? at this
        split at this
        ·split at this
         ·cases this
         ·rename_i hs; simpa using hs
        ·cases this
       obtain ⟨ab, ao, asp⟩ := a
       simp only at hspot
       subst hspot
       obtain ⟨rows, b1, b2, b3⟩ := open_rows (b := ab) hc1 ih elems ao (fun i hi => by
        rw [← hel i (by omega), hc1]
        congr 2
        unfold Addr.add
        by_cases h : i * k0.length = 0
        ·rw [if_pos h, h, Nat.add_zero]
        ·rw [if_neg h]) hw'
       refine ⟨[.sl false k0 rows], by simp [Row.ofKds, DV.ofKd, sameKL], .cons _ _ _ _ ?_ .nil, ⟨by omega, by simp, b3, by rw [b1]; exact hkb⟩, trivial⟩
       rw [← hlen, ← b1]
       exact .sl k0 rows ⟨ab, ao, none⟩ cap (by omega) (fun _ => rfl) b2
    ·cases hk
   ·cases hk
  ·rename_i fs hu
   split at hk
   ·rename_i k0 hk0
    split at hk
    ·rename_i hc
     cases hk
     simp only [beq_eq] at hc
     obtain ⟨xs, m, rfl, rfl, hl, hxs, hx⟩ := DataW.trod_struct hu h
     simp only [DataW.weights, hu] at hw
     have := open_fields (cs := cs) (m := m) (g := kdsT P n) (fun t ks cs x h0 h1 h2 => open_row n t ks m cs x h0 h1 h2) fs.toList xs 0 ks hk0 (by simpa using hxs) (fun i f hf => hx i f (by simpa using hf)) hw
     rw [← hc, ← hl] at this
     simpa using this
    ·cases hk
   ·cases hk
  ·rename_i l e hu
   split at hk
   ·rename_i k0 hk0
    split at hk
    ·rename_i hc
     cases hk
     simp only [Bool.and_eq_true, beq_eq] at hc
     obtain ⟨xs, m, rfl, rfl, hl, hxs, hx⟩ := DataW.trod_array hu h
     simp only [DataW.weights, hu] at hw
     have := open_array (cs := cs) (m := m) (e := e) (k0 := k0) (fun cs x h1 h2 => open_row n e k0 m cs x hk0 h1 h2) l xs 0 hxs (fun i hi => by rw [Nat.zero_add, ← hc.1]; exact hx i hi)
      (fun x hx q hq => hw q (weights_all_mem (List.mem_map_of_mem hx) q hq))
     rw [← hc.2, ← hl] at this
     simpa using this
    ·cases hk
   ·cases hk
  ·cases hk
end

theorem cells_shift (d : DV) (r : Row) : ∀ (ks : List Kd) (j : Nat), Row.cells (d :: r) ks (j + 1) = Row.cells r ks j
 |[], j => rfl
 |k :: ks, j => by
  simp only [Row.cells]
  rw [cells_shift d r ks (j + 1)]
  congr 1
theorem rep_cells {M : Mm} {loc : Nat → Option Nat} {tk : Nat → Option (Value × List Kd)} {cap : Nat → Nat} {M0 : Mm} : ∀ {r : Row} {vs : List Value}, CellsV M r vs → ∀ {ks : List Kd}, Row.ofKds ks r = true → RepL ⟨M, loc, tk, cap, M0⟩ (Row.cells r ks 0) vs
 |_, _, .nil, [], _ => .nil
 |_, _, .nil, _ :: _, h => by simp [Row.ofKds] at h
 |_, _, .cons d v r vs h1 h2, [], h => by simp [Row.ofKds] at h
 |_, _, .cons d v r vs h1 h2, k :: ks, h => by
  simp only [Row.ofKds, Bool.and_eq_true] at h
  simp only [Row.cells]
  refine .cons _ _ _ _ ?_ ?_
  ·exact rep_cellD (d := d) h.1 h1
  ·rw [cells_shift]; exact rep_cells h2 h.2

def argA (P : Program) (t : TypeId) (ks : List Kd) (r : Row) : AV :=
 match agg? P t, ks with
 |some true, ks => .agg (Row.cells r ks 0)
 |_, k :: _ => Row.cell k r 0
 |_, [] => .junk
def argsA (P : Program) : List TypeId → List Row → List AV
 |t :: ts, r :: rs => match kdsT P 9 t with
  |some ks => argA P t ks r :: argsA P ts rs
  |none => []
 |_, _ => []
def Fits (P : Program) : List TypeId → List Row → Prop
 |t :: ts, r :: rs => (∃ ks, kdsT P 9 t = some ks ∧ Row.ofKds ks r = true ∧ RowFine r) ∧ Fits P ts rs
 |[], [] => True
 |_, _ => False

section
variable {H : Type} {enc : TypeId × Value → H} {P : Program} {w : World} {spare : Nat → Bool} {held : Bool}
theorem open_arg {t : TypeId} {ks : List Kd} {v : Value} {d : DataW H} {p : List MemPlace} {b0 : Nat} {loc : Nat → Option Nat} {tk : Nat → Option (Value × List Kd)} {cap : Nat → Nat} {M0 : Mm} (hk : kdsT P 9 t = some ks) (hval : Value.okWide P w .any b0 t v) (h : DataW.Trod enc P w 0 spare held t v d p)
  (hw : ∀ q ∈ d.weights P t, q ≤ reachBytes) : ∃ row, Row.ofKds ks row = true ∧ RowFine row ∧ Rep ⟨cellsM w, loc, tk, cap, M0⟩ (argA P t ks row) v := by
 obtain ⟨fuel, hf⟩ := h
 obtain ⟨row, h1, h2, h3⟩ := open_row 9 t ks fuel _ _ hk hf hw
 refine ⟨row, h1, h3, ?_⟩
 have one : ∀ k, ks = [k] → agg? P t = some false → v.cells = #[v] → Rep ⟨cellsM w, loc, tk, cap, M0⟩ (argA P t ks row) v := by
  intro k hks hag hv
  subst hks
  rw [hv] at h2
  unfold argA
  rw [hag]
  cases h2 with
  |cons d' _ r vs g1 g2 =>
   simp only [Row.ofKds, Bool.and_eq_true] at h1
   exact rep_cellD (d := d') h1.1 g1
 have hk' := hk
 rw [show (9 : Nat) = 8 + 1 from rfl] at hk'
 simp only [kdsT] at hk'
 split at hk'
 ·rename_i hu; cases hk'; obtain ⟨b, rfl⟩ := okWide_bool hu hval; exact one _ rfl (by simp [agg?, hu]) rfl
 ·rename_i k hu; cases hk'; obtain ⟨b, rfl⟩ := okWide_int hu hval; exact one _ rfl (by simp [agg?, hu]) rfl
 ·rename_i hu; cases hk'; obtain ⟨b, rfl⟩ := okWide_string hu hval; exact one _ rfl (by simp [agg?, hu]) rfl
 ·rename_i e hu
  split at hk'
  ·split at hk'
   ·cases hk'; obtain ⟨a, l, c, rfl⟩ := okWide_slice hu hval; exact one _ rfl (by simp [agg?, hu]) rfl
   ·cases hk'
  ·cases hk'
 ·rename_i fs hu
  simp only [Value.okWide, hu] at hval
  obtain ⟨cs, rfl, _, _⟩ := hval
  have hag : agg? P t = some true := by simp [agg?, hu]
  unfold argA
  rw [hag]
  obtain ⟨l⟩ := cs
  exact .agg _ l (rep_cells (by simpa [Value.cells] using h2) h1)
 ·rename_i l e hu
  simp only [Value.okWide, hu] at hval
  obtain ⟨cs, rfl, _, _⟩ := hval
  have hag : agg? P t = some true := by simp [agg?, hu]
  unfold argA
  rw [hag]
  obtain ⟨l⟩ := cs
  exact .agg _ l (rep_cells (by simpa [Value.cells] using h2) h1)
 ·cases hk'

theorem open_args {b0 : Nat} {loc : Nat → Option Nat} {tk : Nat → Option (Value × List Kd)} {cap : Nat → Nat} {M0 : Mm} : ∀ (ts : List TypeId) (vs : List Value) (ds gs : List (DataW H)) (ts' : List TypeId) (p : List MemPlace), (∀ t ∈ ts, (kdsT P 9 t).isSome = true) →
  (∀ (j : Nat) t v, ts[j]? = some t → vs[j]? = some v → Value.okWide P w .any b0 t v) → DataW.TrodAll enc P w 0 spare held ts vs ds p → (∀ q ∈ DataW.weightsEach P (ts ++ ts') (ds ++ gs), q ≤ reachBytes) →
  ∃ rows, Fits P ts rows ∧ RepL ⟨cellsM w, loc, tk, cap, M0⟩ (argsA P ts rows) vs
 |[], vs, ds, gs, ts', p, _, _, h, _ => by
  obtain ⟨rfl, rfl, rfl⟩ := trodAll_nil h
  exact ⟨[], trivial, .nil⟩
 |t :: ts, vs, ds, gs, ts', p, hk, hval, h, hw => by
  obtain ⟨v, vs', d, ds', p', q', rfl, rfl, rfl, h1, h2⟩ := trodAll_cons h
  obtain ⟨ks, hks⟩ := Option.isSome_iff_exists.1 (hk t (List.mem_cons_self ..))
  simp only [List.cons_append, DataW.weightsEach, List.mem_append] at hw
  obtain ⟨row, a1, a2, a3⟩ := open_arg hks (hval 0 t v rfl rfl) h1 (fun q hq => hw q (.inl hq))
  obtain ⟨rows, b1, b2⟩ := open_args ts vs' ds' gs ts' q' (fun t ht => hk t (List.mem_cons_of_mem _ ht)) (fun j t v ht hv => hval (j + 1) t v (by simpa using ht) (by simpa using hv)) h2 (fun q hq => hw q (.inr hq))
  refine ⟨row :: rows, ⟨⟨ks, hks, a1, a2⟩, b1⟩, ?_⟩
  simp only [argsA, hks]
  exact .cons _ _ _ _ a3 b2

theorem back_args {w' : World} (hl : laidOutB P = true) (hb : Below w.heap.size w w') : ∀ (ts : List TypeId) (vs : List Value) (ds : List (DataW H)) (p : List MemPlace), (∀ t ∈ ts, P.readableRec t = true ∧ t < P.types.size) →
  DataW.TrodAll enc P w 0 (fun _ => true) true ts vs ds p → DataW.TrodAll enc P w' 0 (fun b => decide (b < w.heap.size)) true ts vs ds p
 |[], vs, ds, p, _, h => by
  obtain ⟨rfl, rfl, rfl⟩ := trodAll_nil h
  exact trodAll_mk0
 |t :: ts, vs, ds, p, hk, h => by
  obtain ⟨v, vs', d, ds', p', q', rfl, rfl, rfl, h1, h2⟩ := trodAll_cons h
  have hlt : ∀ x ∈ p', x.block < w.heap.size := by obtain ⟨m, hm⟩ := h1; exact DataW.trod_lt m _ _ _ hm
  exact trodAll_cons_mk (Below.trod hl (hk t (List.mem_cons_self ..)).1 (hk t (List.mem_cons_self ..)).2 h1 hb hlt) (back_args hl hb ts vs' ds' q' (fun t ht => hk t (List.mem_cons_of_mem _ ht)) h2)
end
end Go.Den
namespace Go.Den
open Go.ChangeShapes Go.WideShapes Go.RowKit

theorem fn_ok {P : Program} {Φ : Orc} (hΦ : OSound P Φ) (hmix : P.follows .mixedOrders = true) {f : FuncId} {fn : Func} (hf : P.funcs[f]? = some fn) (hname : fn.name ≠ "runtime.NumGoroutine") {lv : Live} {n : Nat} {keep : Bool}
  {args : List AV} {ext : List (List AV)} {out : Out} (h : denFn P Φ lv n fn keep args ext some = some out) : Contract P f args ext out :=
 fn_sound hΦ (fun e he id ops K res Q hK s x w a hs hr => by subst he; exact draw_sound hΦ hmix hK hs hr) hf hname h

theorem inv_start (P : Program) (w : World) (hG : GlobOk ⟨P, w, ⟨cellsM w, fun _ => none, fun _ => none, fun _ => 0, cellsM w⟩, [], [], []⟩) : Inv ⟨P, w, ⟨cellsM w, fun _ => none, fun _ => none, fun _ => 0, cellsM w⟩, [], [], []⟩ ⟨cellsM w, fun _ => none, fun _ => none, fun _ => 0, cellsM w⟩ w (zipExt 1000 []) where
 sub _ _ _ h := h
 slot k cs h := by simp [zipExt, lookup] at h
 inj k k' cs cs' b h := by simp [zipExt, lookup] at h
 tok k v sz h := by cases h
 tokslot k a n c sz j cs h := by cases h
 toktok k k' a n c sz a' n' c' sz' h := by cases h
 os := rfl
 tape := rfl
 output := rfl
 size := Nat.le_refl _
 old _ _ _ _ := rfl
 mono := Sub.refl _
 new _ _ _ h := .inl h
 ext _ _ := rfl
 more := ⟨fun k b cs h => by simp [zipExt, lookup] at h, fun _ _ => rfl, rfl, fun k b cs arr ty h => by simp [zipExt, lookup] at h, Nat.le_refl _⟩
 glob := hG
 low b o v hv := by
  have hv' : w.cell? ⟨b, o, none⟩ = some v := hv
  unfold World.cell? at hv'
  split at hv'
  ·rename_i hb; exact (Array.getElem?_eq_some_iff.1 hb).1
  ·simp at hv'

theorem trodAll_length {H : Type} {enc : TypeId × Value → H} {P : Program} {w : World} {spare : Nat → Bool} {held : Bool} : ∀ (ts : List TypeId) (vs : List Value) (ds : List (DataW H)) (p : List MemPlace), DataW.TrodAll enc P w 0 spare held ts vs ds p → ds.length = ts.length
 |[], vs, ds, p, h => by obtain ⟨_, rfl, _⟩ := trodAll_nil h; rfl
 |t :: ts, vs, ds, p, h => by
  obtain ⟨v, vs', d, ds', p', q', rfl, rfl, rfl, h1, h2⟩ := trodAll_cons h
  simp [trodAll_length ts vs' ds' q' h2]

theorem lifted_of {C : Checked} {os : Os} (started : os.Started) {H : Type} {enc : TypeId × Value → H} {f : FuncId} {fn : Func} {s : ChangeSpec}
  (own : ownKnob C.prog.godebug = none) (noInit : C.prog.inits.idxOf? f = none) (hfn : C.prog.funcs[f]? = some fn)
  (witness : ∃ (w : World) (tape : Tape) (i : Input), w.os = os ∧ (w.forCall tape i).Shaped C.prog ∧ i.vars = [] ∧ Input.okWide C.prog (w.forCall tape i) .any w.heap.size f i ∧
   s.pre6 enc C.prog fn [] false (w.forCall tape i).memory i.args ∧ ({} : Assume).holds C.prog (lone (Frame.enter C.prog f i.args .normal) [] (w.forCall tape i)))
  (laid : laidOutB C.prog = true) {ts : List TypeId} (hts : fn.params.toList = ts) (hread : ts.all (fun t => C.prog.readableRec t && Nat.blt t C.prog.types.size && (kdsT C.prog 9 t).isSome) = true)
  (hvars : s.vars = []) (hspec : ∀ ds : List (DataW H), ds.length = ts.length → s.fn H ds = { results := [.lit (.bool true)], args := ds })
  {rt : TypeId} (hres : fn.resultTypes = #[rt]) (hrt : C.prog.underlying rt = some .bool)
  (contract : ∀ rows, Fits C.prog ts rows → Contract C.prog f (argsA C.prog ts rows) [] ⟨false, .B true, []⟩) (hg : globB C.prog = none) :
  ReturnsInHanded {} C os f .any (s.pre6 enc C.prog fn [] false) (s.post enc C.prog fn false true false false) := by
 refine returnsInHanded_of_change_sized own started noInit hfn witness ?_
 intro W base args ds gs before hval hW _ hsz _
 have hW' := hW
 obtain ⟨p, q, hA, hV, rfl, hfz, hnd⟩ := hW
 rw [hvars] at hV
 obtain ⟨rfl, rfl⟩ := trodVars_none hV
 rw [hts] at hA hsz
 have hall := List.all_eq_true.1 hread
 have h1 : ∀ t ∈ ts, (kdsT C.prog 9 t).isSome = true := fun t ht => by have := hall t ht; simp only [Bool.and_eq_true] at this; exact this.2
 have h2 : ∀ t ∈ ts, C.prog.readableRec t = true ∧ t < C.prog.types.size := fun t ht => by have := hall t ht; simp only [Bool.and_eq_true, Nat.blt_eq] at this; exact this.1
 obtain ⟨rows, hfit, hrep⟩ := open_args (loc := fun _ => none) (tk := fun _ => none) (cap := fun _ => 0) (M0 := cellsM W) ts args.toList ds [] (s.plain.varTypes C.prog) p h1
  (fun j t v ht hv => hval j t v (by rw [← Array.getElem?_toList, hts]; exact ht) (by rw [← Array.getElem?_toList]; exact hv)) hA (fun q hq => by simpa using List.all_eq_true.1 hsz q hq)
 have hlen : ds.length = ts.length := by
  exact trodAll_length ts _ _ _ hA
 have hc := ((contract rows hfit).ord (Nat.le_refl _)).2 W ⟨cellsM W, fun _ => none, fun _ => none, fun _ => 0, cellsM W⟩ [] [] args.toList (fun _ => ⟨rfl, fun _ => rfl⟩) (inv_start _ W (fun g h => by rw [hg] at h; cases h)) hrep
 refine hc.mono ?_
 rintro e W' ⟨x', v, _, rfl, hI, hv⟩
 have hv' : v = .bool true := by
  cases hv with
  |dv _ _ h => cases h; rfl
 subst hv'
 have bel : Below W.heap.size W W' := ⟨hI.os, hI.tape, hI.output, hI.size, fun k hk => hI.old k hk (by simp) (by simp)⟩
 refine ⟨_, rfl, ds, [], _, [], p, [], hW', ?_, ?_, ?_, bel.frame _, fun h => by cases h⟩
 ·rw [List.append_nil, hspec ds hlen, hres]
  exact trodAll_mk1 (shut_bool hrt _)
 ·rw [List.append_nil, hspec ds hlen, hts]
  exact back_args laid bel ts _ _ _ h2 hA
 ·rw [List.append_nil, hspec ds hlen, hvars]
  rfl
end Go.Den
namespace Go.Den
structure OwnX (x x' : X) (ds : List Nat) (n : Nat) : Prop where
 M : x'.M = x.M
 loc : ∀ i d, ds[i]? = some d → x'.loc (1000 + n + i) = x.loc d
 cap : ∀ i d, ds[i]? = some d → x'.cap (1000 + n + i) = x.cap d
mutual
theorem Rep.own {x x' : X} {ds : List Nat} {n : Nat} (h : OwnX x x' ds n) : ∀ {a v}, Rep x a v → Rep x' (AV.own ds n a) v
 |_, _, .dv q v hd => by unfold AV.own; exact .dv q v (by rw [h.M]; exact hd)
 |_, _, .sl nl kd rows r v hd hr => by unfold AV.own; exact .sl nl kd rows _ v (by rw [h.M]; exact hd) trivial
 |_, _, .agg cs vs hl => by unfold AV.own; exact .agg _ vs (RepL.own h hl)
 |_, _, .tup cs vs hl => by unfold AV.own; exact .tup _ vs (RepL.own h hl)
 |_, _, .pl k off b hk => by
  simp only [AV.own]
  split
  ·rename_i hm; exact .pl _ off b (by rw [h.loc _ k (index_get hm)]; exact hk)
  ·exact .junk _
 |_, _, .pv kd row off b o h1 h2 _ => by unfold AV.own; have := Rep.pv (x := x') kd row (pvOff off) b o h1 (by rw [h.M]; exact h2) (by rw [isOld_pvOff]; intro hh; cases hh); rwa [pvOff_idem] at this
 |_, _, .fn f cs vs hl => by unfold AV.own; exact .junk _
 |_, _, .ifc t a v ha => by unfold AV.own; exact .junk _
 |_, _, .ms k kd off m c b o c' hk g1 g2 g3 => by
  simp only [AV.own]
  split
  ·rename_i hm; exact .ms _ kd off m c b o c' (by rw [h.loc _ k (index_get hm)]; exact hk) g1 g2 (by rw [h.cap _ k (index_get hm)]; exact g3)
  ·exact .junk _
 |_, _, .pa k kd i q b hk => by unfold AV.own; exact .junk _
 |_, _, .junk v => by unfold AV.own; exact .junk v
theorem RepL.own {x x' : X} {ds : List Nat} {n : Nat} (h : OwnX x x' ds n) : ∀ {l vs}, RepL x l vs → RepL x' (AV.ownL ds n l) vs
 |_, _, .nil => .nil
 |_, _, .cons a v l vs ha hl => .cons _ _ _ _ (Rep.own h ha) (RepL.own h hl)
end
theorem VirMap.own (ds : List Nat) (n : Nat) : VirMap (AV.own ds n) where
 a a h := by cases a <;> simp only [AV.own] at h <;> first | exact h | (split at h <;> cases h) | cases h
 b a r h := by cases a <;> simp only [AV.own] at h <;> first | (cases h; exact ⟨_, rfl⟩) | (split at h <;> cases h) | cases h
 c a v h := by cases a <;> simp only [AV.own] at h <;> first | exact h | (split at h <;> cases h) | cases h
theorem ownL_map (ds : List Nat) (n : Nat) : ∀ l, AV.ownL ds n l = l.map (AV.own ds n)
 |[] => rfl
 |a :: l => by simp [AV.ownL, ownL_map ds n l]
theorem virgin_own {ds : List Nat} {n : Nat} {cs : List AV} (h : virgin (AV.ownL ds n cs) = true) : virgin cs = true := (VirMap.own ds n).map (by rwa [ownL_map] at h)
theorem MpMap.own (ds : List Nat) (n : Nat) : MpMap (AV.own ds n) where
 tag ag := by cases ag <;> rfl
 arr ks' rows := ⟨rows, rfl⟩
 flat ks' rows _ := rfl
 tag' a ag h := by cases a <;> cases ag <;> simp only [AV.own, mpTag] at h ⊢ <;> first | exact h | (split at h <;> cases h) | cases h
 arr' a ks' rows h := by cases a <;> simp only [AV.own] at h <;> first | (cases h; exact ⟨_, rfl⟩) | (split at h <;> cases h) | cases h
theorem isMp_own (ds : List Nat) (n : Nat) (cs : List AV) : isMp (AV.ownL ds n cs) = isMp cs := by rw [ownL_map]; exact (MpMap.own ds n).isMp cs
theorem Cont.own {x x' : X} {ds : List Nat} {n : Nat} (h : OwnX x x' ds n) {cs : List AV} {l : List Value} (hc : Cont x cs l) : Cont x' (AV.ownL ds n cs) l := by
 rcases hc with hc | ⟨ks, rows, rfl, ha⟩ | ⟨ag, ks, rows, rfl, hm⟩
 ·exact .inl (RepL.own h hc)
 ·exact .inr (.inl ⟨ks, rows, rfl, by rw [h.M]; exact ha⟩)
 ·refine .inr (.inr ⟨ag, ks, rows, ?_, hm⟩)
  cases ag <;> rfl
theorem ownOf_get {ds : List Nat} {n : Nat} {m : Mem} : ∀ {l : List Nat} {r : List (List AV)}, ownOf ds n m l = some r → r.length = l.length ∧ ∀ (q : Nat) (cs : List AV), r[q]? = some cs → ∃ d c0, l[q]? = some d ∧ lookup m d = some c0 ∧ cs = AV.ownL ds n c0
 |[], r, h => by simp only [ownOf, Option.some.injEq] at h; subst h; simp
 |d :: l, r, h => by
  simp only [ownOf] at h
  split at h
  ·rename_i c cs hcs
   split at h
   ·rename_i r0 hr0
    cases h
    obtain ⟨h1, h2⟩ := ownOf_get hr0
    refine ⟨by simp [h1], fun q cs' hq => ?_⟩
    cases q with
    |zero => simp at hq; exact ⟨d, _, rfl, hcs, hq.symm⟩
    |succ q => simpa using h2 q cs' (by simpa using hq)
   ·cases h
  ·cases h
theorem extN_get {ds : List Nat} {n : Nat} {m : Mem} : ∀ {ext : List (List AV)} {i : Nat} {r : List (List AV)}, extN ds n m i ext = some r → r.length = ext.length ∧ ∀ (q : Nat) (cs : List AV), r[q]? = some cs → ∃ c0, lookup m (i + q) = some c0 ∧ cs = AV.ownL ds n c0
 |[], i, r, h => by simp only [extN, Option.some.injEq] at h; subst h; simp
 |c :: ext, i, r, h => by
  simp only [extN] at h
  split at h
  ·rename_i cs hcs
   split at h
   ·rename_i r0 hr0
    cases h
    obtain ⟨h1, h2⟩ := extN_get hr0
    refine ⟨by simp [h1], ?_⟩
    intro q cs' hq
    cases q with
    |zero => simp at hq; subst hq; exact ⟨cs, hcs, rfl⟩
    |succ q =>
     simp at hq
     obtain ⟨c0, h3, h4⟩ := h2 q cs' hq
     exact ⟨c0, by rw [← h3]; congr 1; omega, h4⟩
   ·cases h
  ·cases h
theorem exitN {P : Program} {w w1 : World} {x x1 : X} {E : List Nat} {m : Mem} {ext ex nw : List (List AV)} {ds : List Nat} (hI : Inv ⟨P, w, x, E, [], []⟩ x1 w1 m) (hnd : ds.Nodup) (hlt : ∀ d ∈ ds, d < 1000)
  (hex : extN ds ext.length m 1000 ext = some ex) (hnw : ownOf ds ext.length m ds = some nw) :
  ∃ x' x0, Up x x0 (1000 + ext.length) ∧ OwnX x1 x' ds ext.length ∧ Inv ⟨P, w, x0, E, [], []⟩ x' w1 (dropNil (zipExt 1000 (ex ++ nw))) := by
 obtain ⟨e1, e2⟩ := extN_get hex
 obtain ⟨n1, n2⟩ := ownOf_get hnw
 let ovl : (Nat → Option Nat) → Nat → Option Nat := fun l k => if 1000 + ext.length ≤ k then (ds[k - (1000 + ext.length)]?).bind x1.loc else l k
 let ovc : (Nat → Nat) → Nat → Nat := fun l k => if 1000 + ext.length ≤ k then ((ds[k - (1000 + ext.length)]?).map x1.cap).getD 0 else l k
 have hO : OwnX x1 { M := x1.M, loc := ovl x1.loc, tk := fun _ => none, cap := ovc x1.cap, M0 := x1.M0 } ds ext.length := by
  refine ⟨rfl, fun i d hd => ?_, fun i d hd => ?_⟩
  ·simp only [ovl]; rw [if_pos (by omega), Nat.add_sub_cancel_left, hd]; rfl
  ·simp only [ovc]; rw [if_pos (by omega), Nat.add_sub_cancel_left, hd]; rfl
 -- a slot that is told
 have hz : ∀ k cs, lookup (dropNil (zipExt 1000 (ex ++ nw))) k = some cs → ∃ k0 c0, lookup m k0 = some c0 ∧ ovl x1.loc k = x1.loc k0 ∧ ovc x1.cap k = x1.cap k0 ∧ 1000 ≤ k ∧ cs = AV.ownL ds ext.length c0 ∧
   ((k < 1000 + ext.length ∧ k0 = k) ∨ (1000 + ext.length ≤ k ∧ ds[k - (1000 + ext.length)]? = some k0)) := by
  intro k cs hk
  rw [lookup_zipNil] at hk
  split at hk
  ·rename_i hle
   have hk' : (ex ++ nw)[k - 1000]? = some cs := by
    revert hk
    cases h0 : (ex ++ nw)[k - 1000]? with
    |none => simp
    |some r => cases r with
     |nil => simp
     |cons c r => simp
   by_cases hlt2 : k - 1000 < ex.length
   ·rw [List.getElem?_append_left hlt2] at hk'
    obtain ⟨c0, h0, rfl⟩ := e2 _ _ hk'
    rw [show 1000 + (k - 1000) = k by omega] at h0
    have hn : ¬ 1000 + ext.length ≤ k := by omega
    exact ⟨k, c0, h0, by simp only [ovl, if_neg hn], by simp only [ovc, if_neg hn], hle, rfl, .inl ⟨by omega, rfl⟩⟩
   ·rw [List.getElem?_append_right (by omega)] at hk'
    obtain ⟨d, c0, hd, h0, rfl⟩ := n2 _ _ hk'
    have hge : 1000 + ext.length ≤ k := by omega
    have hi : k - 1000 - ex.length = k - (1000 + ext.length) := by omega
    rw [hi] at hd
    refine ⟨d, c0, h0, ?_, ?_, hle, rfl, .inr ⟨hge, hd⟩⟩
    ·have := hO.loc (k - (1000 + ext.length)) d hd
     rw [show 1000 + ext.length + (k - (1000 + ext.length)) = k by omega] at this; exact this
    ·have := hO.cap (k - (1000 + ext.length)) d hd
     rw [show 1000 + ext.length + (k - (1000 + ext.length)) = k by omega] at this; exact this
  ·cases hk
 refine ⟨{ M := x1.M, loc := ovl x1.loc, tk := fun _ => none, cap := ovc x1.cap, M0 := x1.M0 }, { M := x.M, loc := ovl x.loc, tk := x.tk, cap := ovc x.cap, M0 := x.M0 }, ⟨rfl, rfl, fun k hk => ?_, fun k hk => ?_⟩, hO, ?_⟩
 ·have : ¬ 1000 + ext.length ≤ k := by omega
  simp only [ovl, if_neg this]
 ·have : ¬ 1000 + ext.length ≤ k := by omega
  simp only [ovc, if_neg this]
 refine ⟨hI.sub, ?_, ?_, fun k v sz hk => (by cases hk), fun k a n c sz j cs hk => (by cases hk), fun k k' a n c sz a' n' c' sz' hk => (by cases hk), hI.os, hI.tape, hI.output, hI.size, hI.old, hI.mono, hI.new, ?_, hI.low, ?_, hI.glob⟩
 ·intro k cs hk
  obtain ⟨k0, c0, h0, hl, hcp, hle, rfl, hcase⟩ := hz k cs hk
  obtain ⟨b, ty, arr, p1, p2, p3, p4, p5⟩ := hI.slot k0 c0 h0
  refine ⟨b, ty, arr, hl.trans p1, ?_, by rw [objOf_congr (isMp_own _ _ c0)]; exact p3, p4.own hO, p5⟩
  rcases p2 with p2 | p2
  ·exact .inl p2
  ·exact .inr ⟨p2.1, hle⟩
 ·intro k k' cs cs' b hk hk' hb hb'
  obtain ⟨k0, c0, h0, hl, _, hle, rfl, hcase⟩ := hz k cs hk
  obtain ⟨k0', c0', h0', hl', _, hle', rfl, hcase'⟩ := hz k' cs' hk'
  have hb1 : x1.loc k0 = some b := hl.symm.trans hb
  have hb2 : x1.loc k0' = some b := hl'.symm.trans hb'
  have heq := hI.inj k0 k0' c0 c0' b h0 h0' hb1 hb2
  rcases hcase with ⟨g1, g2⟩ | ⟨g1, g2⟩ <;> rcases hcase' with ⟨g1', g2'⟩ | ⟨g1', g2'⟩
  ·omega
  ·have := hlt k0' (List.mem_of_getElem? g2'); omega
  ·have := hlt k0 (List.mem_of_getElem? g2); omega
  ·subst heq
   have i1 : k - (1000 + ext.length) < ds.length := (List.getElem?_eq_some_iff.1 g2).1
   have i2 : k' - (1000 + ext.length) < ds.length := (List.getElem?_eq_some_iff.1 g2').1
   have e1 := (List.getElem?_eq_some_iff.1 g2).2
   have e2 := (List.getElem?_eq_some_iff.1 g2').2
   have := (List.getElem_inj hnd).1 (e1.trans e2.symm)
   omega
 ·intro k hk
  show ovl x1.loc k = ovl x.loc k
  by_cases hc : 1000 + ext.length ≤ k
  ·simp only [ovl, if_pos hc]
  ·simp only [ovl, if_neg hc]; exact hI.ext k hk
 ·refine ⟨fun k b cs hk hmp hb => ?_, fun k hk => ?_, hI.more.M0, fun k b cs arr ty hk hv hb hh => ?_, hI.more.drawn⟩
  ·obtain ⟨k0, c0, h0, hl, hcp, hle, rfl, hcase⟩ := hz k cs hk
   obtain ⟨arr, ty, q1, q2⟩ := hI.more.room k0 b c0 h0 (by rwa [isMp_own] at hmp) (hl.symm.trans hb)
   exact ⟨arr, ty, q1, by show ovc x1.cap k ≤ _; rw [hcp]; exact q2⟩
  ·show ovc x1.cap k = ovc x.cap k
   by_cases hc : 1000 + ext.length ≤ k
   ·simp only [ovc, if_pos hc]
   ·simp only [ovc, if_neg hc]; exact hI.more.ext k hk
  ·obtain ⟨k0, c0, h0, hl, hcp, hle, rfl, hcase⟩ := hz k cs hk
   exact hI.more.vir k0 b c0 arr ty h0 (virgin_own hv) (hl.symm.trans hb) hh
theorem oneOf_rep {x : X} {avs : List AV} {vs : List Value} (h : RepL x avs vs) : Rep x (oneOf avs) (if h : (⟨vs⟩ : Array Value).size = 1 then (⟨vs⟩ : Array Value)[0] else .tuple ⟨vs⟩) := by
 unfold oneOf
 split
 ·rename_i v
  cases h with | cons _ u _ us h1 h2 =>
  cases h2
  simpa using h1
 ·rename_i hne
  have : ¬ (⟨vs⟩ : Array Value).size = 1 := by
   intro h1
   have : avs.length = 1 := by rw [h.length]; simpa using h1
   obtain ⟨v, rfl⟩ := List.length_eq_one_iff.1 this
   exact hne v rfl
  rw [dif_neg this]
  exact .tup _ _ h
theorem fnN_sound {P : Program} {Φ : Orc} (hΦ : OSound P Φ) (hmix : P.follows .mixedOrders = true) {f : FuncId} {fn : Func} (hf : P.funcs[f]? = some fn) (hname : fn.name ≠ "runtime.NumGoroutine") {lv : Live} {n : Nat} {ds : List Nat}
  {args : List AV} {ext : List (List AV)} {R : Type} {K : Out → Option R} {res : R} {out : Out} (hK : ∀ o, K o = some res → o = out) (h : denFnN P Φ lv n fn ds args ext K = some res) : Contract P f args ext out := by
 unfold denFnN at h
 split at h
 ·cases h
 ·rename_i c hc
  split at h
  ·rename_i hle
   simp only [Bool.and_eq_true, Bool.not_eq_true'] at hle
   obtain ⟨⟨⟨⟨g1, g2⟩, g3⟩, g4⟩, g5⟩ := hle
   have hnd := nodup_iff g2
   have hlt := allLt_mem g3
   have hpos : 0 < ds.length := by cases ds with | nil => simp at g4 | cons a l => simp
   -- what comes out
   have hfin : ∀ (w : World) (x : X) (E : List Nat) (ex : Ex) (s1 : St) (x1 : X) (w1 : World) (a1 : Act), finN P fn ds ext K ex s1 = some res → StOk ⟨P, w, x, E, [], []⟩ x1 w1 s1 a1 →
     (ex = .normal ∨ ex = .ret) → a1.defers = [] ∧ ∃ v, (results fn a1.tmps).run P w1 = .ok v w1 ∧ ∃ x' x0 u, Ending.returned v = .returned u ∧ Up x x0 (1000 + ext.length) ∧ Inv ⟨P, w, x0, E, [], []⟩ x' w1 (dropNil (zipExt 1000 out.ext)) ∧ Rep x' out.res u := by
    intro w x E ex s1 x1 w1 a1 hk hs1 hex
    have hk' : (resE P s1 fn.results.toList fun vs => match extN ds ext.length s1.m 1000 ext, ownOf ds ext.length s1.m ds with
      |some ex, some nw => K (⟨false, oneOf (AV.ownL ds ext.length vs), ex ++ nw⟩ : Out)
      |_, _ => none) = some res := by
     rcases hex with rfl | rfl <;> exact hk
    obtain ⟨avs, us, h1, h2, h3⟩ := res_sound (e := ⟨P, w, x, E, [], []⟩) rfl hs1 hk'
    split at h1
    ·rename_i ex' nw hex' hnw
     have ho := hK _ h1
     subst ho
     obtain ⟨x', x0, q1, q2, q3⟩ := exitN hs1.inv hnd hlt hex' hnw
     refine ⟨hs1.defers, _, ?_, x', x0, _, rfl, q1, q3, oneOf_rep (RepL.own q2 h2)⟩
     unfold results
     simp only [Sem.run_bind, Array.mapM_eq_mapM_toList, Sem.run_map]
     erw [h3]
     rfl
    ·cases h1
   have hout : ∀ (ex : Ex) (s1 : St), finN P fn ds ext K ex s1 = some res → out.pan = false ∧ ext.length < out.ext.length := by
    intro ex s1 hk
    have hgo : ∀ (l : List ResultVar) (K : List AV → Option R), resE P s1 l K = some res → ∃ vs, K vs = some res := by
     intro l
     induction l with
     |nil => intro K hK; exact ⟨[], hK⟩
     |cons r l ih =>
      intro K hK
      cases r with
      |tmp t =>
       simp only [resE] at hK
       split at hK
       ·obtain ⟨vs, hv⟩ := ih _ hK; exact ⟨_, hv⟩
       ·cases hK
      |cell a t =>
       simp only [resE] at hK
       split at hK
       ·rename_i v hv
        obtain ⟨eff, he, _⟩ := loadE_pick hK
        obtain ⟨vs, hv⟩ := ih _ he; exact ⟨_, hv⟩
       ·cases hK
    have hk' : ex = .normal ∨ ex = .ret := by
     cases ex with
     |normal => exact .inl rfl
     |ret => exact .inr rfl
     |exit id => simp [finN] at hk
     |pan v => simp [finN] at hk
    have hk2 : (resE P s1 fn.results.toList fun vs => match extN ds ext.length s1.m 1000 ext, ownOf ds ext.length s1.m ds with
      |some ex, some nw => K (⟨false, oneOf (AV.ownL ds ext.length vs), ex ++ nw⟩ : Out)
      |_, _ => none) = some res := by
     rcases hk' with rfl | rfl <;> exact hk
    obtain ⟨vs, hv⟩ := hgo _ _ hk2
    split at hv
    ·rename_i ex' nw hex' hnw
     have ho := hK _ hv
     subst ho
     have l1 := (extN_get hex').1
     have l2 := (ownOf_get hnw).1
     exact ⟨rfl, by simp only [List.length_append]; omega⟩
    ·cases hv
   by_cases hw : out.pan = false ∧ ext.length < out.ext.length
   ·refine .inr ⟨⟨fn, hf, by simp [hc], hname⟩, hw.1, hw.2, ?_⟩
    intro w x E vs htk hI hr
    refine calls_of_wp hf hc ?_
    refine den_sound (e := ⟨P, w, x, E, [], []⟩) hΦ (fun id ops K Q h1 s x' w' a hs hr => draw_sound hΦ hmix h1 hs hr) lv (.inl rfl) n c _ _ ?_ _ x w _ ⟨by cases live lv 999999 with | none => exact hI | some z => exact hI.olden hI.more.M0, ?_, rfl⟩ h
    ·intro ex En s1 x1 w1 a1 hk hs1 hex
     cases hex with
     |exit id => simp [finN] at hk
     |pan v u hv => simp [finN] at hk
     |normal => exact hfin w x E .normal s1 x1 w1 a1 hk hs1 (.inl rfl)
     |ret => exact hfin w x E .ret s1 x1 w1 a1 hk hs1 (.inr rfl)
    ·have h1 := hr.length
     have hgo : ∀ as : List AV, RepL x as vs → RepL x (as ++ List.replicate (fn.ntmps - args.length) .junk) (vs ++ List.replicate (fn.ntmps - vs.length) undef) := by
      intro as has
      rw [h1]; exact has.append (RepL.junks x _ undef)
     cases hl : live lv 999999 with
     |none => simpa [hl] using hgo args hr
     |some z => simpa [hl] using hgo _ (hr.olden hI.more.M0)
   ·-- it never ends well
    refine .inl ⟨⟨fn, hf, by simp [hc], hname⟩, ?_⟩
    intro w x E L vs htk hI hr
    obtain ⟨hL, htk'⟩ := htk g5
    subst hL
    refine calls_of_wp hf hc ?_
    refine den_sound (e := ⟨P, w, x, E, [], []⟩) hΦ (fun id ops K Q h1 s x' w' a hs hr => draw_sound hΦ hmix h1 hs hr) lv (.inl rfl) n c _ _ ?_ _ x w _ ⟨by cases live lv 999999 with | none => exact hI | some z => exact hI.olden hI.more.M0, ?_, rfl⟩ h
    ·intro ex En s1 x1 w1 a1 hk hs1 hex
     exact absurd (hout _ _ hk) hw
    ·have h1 := hr.length
     have hgo : ∀ as : List AV, RepL x as vs → RepL x (as ++ List.replicate (fn.ntmps - args.length) .junk) (vs ++ List.replicate (fn.ntmps - vs.length) undef) := by
      intro as has
      rw [h1]; exact has.append (RepL.junks x _ undef)
     cases hl : live lv 999999 with
     |none => simpa [hl] using hgo args hr
     |some z => simpa [hl] using hgo _ (hr.olden hI.more.M0)
  ·cases h
end Go.Den
namespace Go.Den
variable {P : Program} {Φ : Orc}

def Pick (Φ : Orc) : Prop := ∀ (R : Type) (f : FuncId) (args : List AV) (ext : List (List AV)) (k : Out → Option R) (r : R), Φ.call R f args ext k = some r → ∃ out, k out = some r ∧ ∀ (R' : Type) (k' : Out → Option R'), Φ.call R' f args ext k' = k' out

def Gone {R : Type} (k kp : Eff → Option R) (r : R) (F : (R' : Type) → (Eff → Option R') → (Eff → Option R') → Option R') : Prop :=
 (∃ eff, k eff = some r ∧ ∀ R' k' kp', F R' k' kp' = k' eff) ∨ (∃ eff, kp eff = some r ∧ ∀ R' k' kp', F R' k' kp' = kp' eff)

theorem opE_gone (hΦ : Pick Φ) {R : Type} {t : List AV} {m : Mem} {o : Oper} {k kp : Eff → Option R} {r : R} (h : opE P Φ t m o k kp = some r) : Gone k kp r (fun R' k' kp' => opE P Φ t m o k' kp') := by
 unfold opE at h
 cases hop : o.op
 case call c =>
  obtain ⟨callee, ys, ts⟩ := c
  cases callee with
  |value f =>
   simp only [hop] at h
   split at h
   ·rename_i f' caps args hf ha
    unfold callE at h
    simp only at h
    split at h
    ·rename_i hlk
     obtain ⟨out, hk, hc⟩ := hΦ R _ _ _ _ _ h
     obtain ⟨eff, hke, hall⟩ := lookOut_pick hk
     exact .inl ⟨eff, hke, fun R' k' kp' => by unfold opE callE; simp only [hop, hf, ha, hlk]; rw [hc]; exact hall R' k'⟩
    rename_i hlk
    split at h
    ·rename_i ext hx
     split at h
     ·rename_i hle
      obtain ⟨out, hk, hc⟩ := hΦ R _ _ _ _ _ h
      cases hbl : Nat.ble out.ext.length (reach m (AV.slots (args ++ caps))).length with
      |true =>
       rw [hbl] at hk
       cases hp : out.pan with
       |true =>
        rw [hp] at hk
        exact .inr ⟨_, hk, fun R' k' kp' => by unfold opE callE; simp only [hop, hf, ha, hlk, hx, hc, hp, hle, hbl]⟩
       |false =>
        rw [hp] at hk
        exact .inl ⟨_, hk, fun R' k' kp' => by unfold opE callE; simp only [hop, hf, ha, hlk, hx, hc, hp, hle, hbl]⟩
      |false =>
       rw [hbl] at hk
       obtain ⟨eff, hke, hall⟩ := newE_pick hk
       exact .inl ⟨eff, hke, fun R' k' kp' => by unfold opE callE; simp only [hop, hf, ha, hlk, hx, hc, hle, hbl]; exact hall R' k'⟩
     ·rename_i hle
      split at h
      ·rename_i hnt
       obtain ⟨out, hk, hc⟩ := hΦ R _ _ _ _ _ h
       cases hbl : Nat.ble out.ext.length (reach m (AV.slots (args ++ caps))).length with
       |true =>
        rw [hbl] at hk
        cases hp : out.pan with
        |true =>
         rw [hp] at hk
         exact .inr ⟨_, hk, fun R' k' kp' => by unfold opE callE; simp only [hop, hf, ha, hlk, hx, hc, hp, hle, hnt, hbl]⟩
        |false =>
         rw [hp] at hk
         exact .inl ⟨_, hk, fun R' k' kp' => by unfold opE callE; simp only [hop, hf, ha, hlk, hx, hc, hp, hle, hnt, hbl]⟩
       |false =>
        rw [hbl] at hk
        cases hk
      ·cases h
    ·cases h
   ·cases h
  |invoke r n => simp only [hop] at h; cases h
  |builtin b =>
   simp only [hop] at h
   split at h
   ·rename_i args ha
    obtain ⟨eff, h1, h2⟩ := builtinE_pick h
    exact .inl ⟨eff, h1, fun R' k' kp' => by unfold opE; simp only [hop, ha, h2]⟩
   ·cases h
 case load ty y =>
  simp only [hop] at h
  split at h
  ·rename_i v hv
   obtain ⟨eff, h1, h2⟩ := loadE_pick h
   exact .inl ⟨eff, h1, fun R' k' kp' => by unfold opE; simp only [hop, hv, h2]⟩
  ·cases h
 case store ty y z =>
  simp only [hop] at h
  split at h
  ·rename_i v u hv hu
   obtain ⟨eff, h1, h2⟩ := storeE_pick h
   exact .inl ⟨eff, h1, fun R' k' kp' => by unfold opE; simp only [hop, hv, hu, h2]⟩
  ·cases h
 case makeMap ty r =>
  cases r with
  |none =>
   simp only [hop] at h
   obtain ⟨eff, h1, h2⟩ := newMapE_pick h
   exact .inl ⟨eff, h1, fun R' k' kp' => by unfold opE; simp only [hop, h2]⟩
  |some r => simp only [hop] at h; cases h
 case lookup ty y z ok =>
  simp only [hop] at h
  split at h
  ·rename_i kt et hu
   split at h
   ·rename_i v u hv hw
    obtain ⟨eff, h1, h2⟩ := lookE_pick h
    exact .inl ⟨eff, h1, fun R' k' kp' => by unfold opE; simp only [hop, hu, hv, hw, h2]⟩
   ·cases h
  ·cases h
 case mapUpdate ty y z v' =>
  simp only [hop] at h
  split at h
  ·rename_i kt et hu
   split at h
   ·rename_i v u q hv hw hq
    obtain ⟨eff, h1, h2⟩ := putE_pick h
    exact .inl ⟨eff, h1, fun R' k' kp' => by unfold opE; simp only [hop, hu, hv, hw, hq, h2]⟩
   ·cases h
  ·cases h
 case slice ty y lo hi mx =>
  simp only [hop] at h
  repeat' split at h
  all_goals first
   |cases h; done
   |obtain ⟨eff, h1, h2⟩ := sliceE_pick h
    exact .inl ⟨eff, h1, fun R' k' kp' => by unfold opE; first | (simp only [hop, *, if_true]; done) | (simp_all; done)⟩
 case typeAssert y t0 t1 c =>
  cases c
  ·simp only [hop] at h
   repeat' split at h
   all_goals first
    |cases h; done
    |exact .inl ⟨_, h, fun R k kp => by unfold opE; first | (simp only [hop, *, if_true]; done) | (subst_vars; simp_all; done)⟩
  ·simp only [hop] at h; cases h
 case index ty y z =>
  simp only [hop] at h
  repeat' split at h
  all_goals first
   |cases h; done
   |exact .inl ⟨_, h, fun R k kp => by unfold opE; first | (simp only [hop, *, if_true]; done) | (subst_vars; simp_all; done)⟩
   |obtain ⟨c, h1, h2⟩ := pickIx_pick h
    exact .inl ⟨_, h1, fun R' k' kp' => by unfold opE; simp only [hop, *, if_true]⟩
 case makeFunc f first caps =>
  cases f
  case func f =>
   simp only [hop] at h
   repeat' split at h
   all_goals first
    |cases h; done
    |exact .inl ⟨_, h, fun R k kp => by unfold opE; first | (simp only [hop, *, if_true]; done) | (subst_vars; simp_all; done)⟩
  all_goals simp only [hop] at h; cases h
 case panic y =>
  simp only [hop] at h
  repeat' split at h
  all_goals first
   |cases h; done
   |exact .inr ⟨_, h, fun R k kp => by unfold opE; first | (simp only [hop, *, if_true]; done) | (subst_vars; simp_all; done)⟩
 all_goals simp only [hop] at h
 all_goals try (repeat' split at h)
 all_goals first
  |cases h; done
  |exact .inl ⟨_, h, fun R k kp => by unfold opE; first | (simp only [hop, *, if_true, if_false]; done) | (subst_vars; simp_all; done)⟩

inductive Rg where
 |go (s : St) | pan (v : AV) (s : St)
def Rg.at {R : Type} (k : St → Option R) (kp : AV → St → Option R) : Rg → Option R
 | .go s => k s
 | .pan v s => kp v s

theorem stepE_pick (hΦ : Pick Φ) {R : Type} {o : Oper} {s : St} {k : St → Option R} {kp : AV → St → Option R} {r : R} (h : stepE P Φ o s k kp = some r) :
  ∃ g : Rg, g.at k kp = some r ∧ ∀ (R' : Type) (k' : St → Option R') (kp' : AV → St → Option R'), stepE P Φ o s k' kp' = g.at k' kp' := by
 unfold stepE at h
 rcases opE_gone hΦ h with ⟨eff, h1, h2⟩ | ⟨eff, h1, h2⟩
 ·exact ⟨.go (s.apply o.dst eff), h1, fun R' k' kp' => h2 R' _ _⟩
 ·exact ⟨.pan eff.val (s.apply none eff), h1, fun R' k' kp' => h2 R' _ _⟩

theorem regP_pick {R : Type} {kp : AV → St → Option R} {all : List Oper} {B : List (List Nat)} {acc : List El} {o : Oper} {s : St} {e : Eff} {r : R} (h : regP kp all B acc o s e = some r) :
  ∃ v s', kp v s' = some r ∧ ∀ (R' : Type) (kp' : AV → St → Option R'), regP kp' all B acc o s e = kp' v s' := by
 unfold regP at h
 split at h
 ·rename_i D h1 h2
  simp only [Eff.force_eq, St.force_eq] at h
  exact ⟨_, _, h, fun R' kp' => by unfold regP; simp only [h1, h2, Eff.force_eq, St.force_eq]⟩
 ·cases h
theorem regD_pick (hΦ : Pick Φ) {R : Type} {all : List Oper} {B : List (List Nat)} {k : St → Option R} {kp : AV → St → Option R} {r : R} : ∀ (l : List Oper) (acc : List El) (s : St), regD P Φ kp all B l acc s k = some r →
  ∃ g : Rg, g.at k kp = some r ∧ ∀ (R' : Type) (k' : St → Option R') (kp' : AV → St → Option R'), regD P Φ kp' all B l acc s k' = g.at k' kp'
 |[], acc, s, h => ⟨.go s, h, fun _ _ _ => rfl⟩
 |o :: l, acc, s, h => by
  have step : ∀ (t : List AV) (tch : List Nat) (s : St) (kx : (R : Type) → (AV → St → Option R) → Eff → Option R), (∀ R (kp : AV → St → Option R) eff r, kx R kp eff = some r → ∃ v s', kp v s' = some r ∧ ∀ (R' : Type) (kp' : AV → St → Option R'), kx R' kp' eff = kp' v s') → opE P Φ t s.m o (fun e =>
     let el := El.of Φ.hs all B acc.length o e true tch
     if okAll B acc.length 0 acc el then regD P Φ kp all B l (acc ++ [el]) (s.apply o.dst e) k else none) (kx R kp) = some r →
    ∃ g : Rg, g.at k kp = some r ∧ ∀ (R' : Type) (k' : St → Option R') (kp' : AV → St → Option R'), opE P Φ t s.m o (fun e =>
     let el := El.of Φ.hs all B acc.length o e true tch
     if okAll B acc.length 0 acc el then regD P Φ kp' all B l (acc ++ [el]) (s.apply o.dst e) k' else none) (kx R' kp') = g.at k' kp' := by
   intro t tch s kx hkx h
   rcases opE_gone hΦ h with ⟨eff, h1, h2⟩ | ⟨eff, h1, h2⟩
   ·simp only at h1
    split at h1
    ·rename_i hok
     obtain ⟨g, h3, h4⟩ := regD_pick hΦ l _ _ h1
     refine ⟨g, h3, fun R' k' kp' => (h2 R' _ _).trans ?_⟩
     simp only [hok, if_true]
     exact h4 R' k' kp'
    ·cases h1
   ·obtain ⟨v, s', h3, h4⟩ := hkx R kp eff r h1
    exact ⟨.pan v s', h3, fun R' k' kp' => (h2 R' _ _).trans (h4 R' kp')⟩
  have skip : ∀ (s : St), (let el := El.of Φ.hs all B acc.length o (.pure .junk) false []
     if okAll B acc.length 0 acc el then regD P Φ kp all B l (acc ++ [el]) (s.apply o.dst (.pure .junk)) k else none) = some r →
    ∃ g : Rg, g.at k kp = some r ∧ ∀ (R' : Type) (k' : St → Option R') (kp' : AV → St → Option R'), (let el := El.of Φ.hs all B acc.length o (.pure .junk) false []
     if okAll B acc.length 0 acc el then regD P Φ kp' all B l (acc ++ [el]) (s.apply o.dst (.pure .junk)) k' else none) = g.at k' kp' := by
   intro s h
   simp only at h
   split at h
   ·rename_i hok
    obtain ⟨g, h3, h4⟩ := regD_pick hΦ l _ _ h
    refine ⟨g, h3, fun R' k' kp' => ?_⟩
    simp only [hok, if_true]
    exact h4 R' k' kp'
   ·cases h
  simp only [regD, regN_eq] at h
  split at h
  ·rename_i hg
   obtain ⟨g, h1, h2⟩ := step _ _ s (fun R kp e => regP kp all B acc o s e) (fun R kp eff r h => regP_pick h) h
   exact ⟨g, h1, fun R' k' kp' => by simp only [regD, regN_eq, hg]; exact h2 R' k' kp'⟩
  ·rename_i j want hg
   split at h
   ·cases h
   ·rename_i d hd
    split at h
    ·rename_i b hb
     cases b <;> cases want <;> simp only at h
     ·obtain ⟨g, h1, h2⟩ := step _ _ (St.mk (s.t.set d (.B false)) s.m) (fun R kp e => none) (fun R kp eff r h => by cases h) h
      exact ⟨g, h1, fun R' k' kp' => by simp only [regD, regN_eq, hg, hd, hb]; exact h2 R' k' kp'⟩
     ·obtain ⟨g, h1, h2⟩ := skip _ h
      exact ⟨g, h1, fun R' k' kp' => by simp only [regD, regN_eq, hg, hd, hb]; exact h2 R' k' kp'⟩
     ·obtain ⟨g, h1, h2⟩ := skip _ h
      exact ⟨g, h1, fun R' k' kp' => by simp only [regD, regN_eq, hg, hd, hb]; exact h2 R' k' kp'⟩
     ·obtain ⟨g, h1, h2⟩ := step _ _ (St.mk (s.t.set d (.B true)) s.m) (fun R kp e => none) (fun R kp eff r h => by cases h) h
      exact ⟨g, h1, fun R' k' kp' => by simp only [regD, regN_eq, hg, hd, hb]; exact h2 R' k' kp'⟩
    ·cases h
theorem regA_pick (hΦ : Pick Φ) {R : Type} {ops : List Oper} {s : St} {k : St → Option R} {kp : AV → St → Option R} {r : R} (h : regA P Φ kp ops s k = some r) :
  ∃ g : Rg, g.at k kp = some r ∧ ∀ (R' : Type) (k' : St → Option R') (kp' : AV → St → Option R'), regA P Φ kp' ops s k' = g.at k' kp' := by
 unfold regA at h
 split at h
 ·rename_i hb
  rw [befsK_eq] at h
  generalize hst : strikes Φ.hs ops (befs ops []) 0 ops = st at h
  obtain ⟨p, ks⟩ := st
  obtain ⟨g, h1, h2⟩ := regD_pick hΦ ops [] _ h
  exact ⟨g, h1, fun R' k' kp' => by unfold regA; rw [if_pos hb, befsK_eq, hst]; exact h2 R' k' kp'⟩
 ·cases h

theorem loopE_pick {q : Nat} {tl ml : List Nat} {body : (R : Type) → (Ex → St → Option R) → St → Option R}
  (hb : ∀ (R : Type) (K : Ex → St → Option R) (r : R) (s : St), body R K s = some r → ∃ e s', K e s' = some r ∧ ∀ (R' : Type) (K' : Ex → St → Option R'), body R' K' s = K' e s')
  {R : Type} {K : Ex → St → Option R} {r : R} : ∀ (n : Nat) (s : St), loopE q tl ml (body R) n K s = some r → ∃ e s', K e s' = some r ∧ ∀ (R' : Type) (K' : Ex → St → Option R'), loopE q tl ml (body R') n K' s = K' e s'
 |0, s, h => by simp [loopE] at h
 |n + 1, s, h => by
  simp only [loopE] at h
  obtain ⟨e, s', h1, h2⟩ := hb _ _ _ _ h
  cases e with
  |normal =>
   simp only at h1
   split at h1
   ·rename_i s'' hn
    obtain ⟨e2, s2, h3, h4⟩ := loopE_pick hb n s'' h1
    exact ⟨e2, s2, h3, fun R' K' => by simp only [loopE]; rw [h2]; simp only [hn]; exact h4 R' K'⟩
   ·cases h1
  |exit id => exact ⟨_, s', h1, fun R' K' => by simp only [loopE]; rw [h2]⟩
  |ret => exact ⟨_, s', h1, fun R' K' => by simp only [loopE]; rw [h2]⟩
  |pan v => exact ⟨_, s', h1, fun R' K' => by simp only [loopE]; rw [h2]⟩

theorem thaw_pick {t slot : Nat} {s : St} {R : Type} {k : St → Option R} {r : R} (h : thaw t slot s k = some r) : ∃ s', k s' = some r ∧ ∀ (R' : Type) (k' : St → Option R'), thaw t slot s k' = k' s' := by
 unfold thaw at h
 split at h
 ·rename_i nl ks rows j ht
  split at h
  ·rename_i hc
   exact ⟨_, h, fun R' k' => by unfold thaw; simp only [ht, hc]⟩
  ·rename_i hc
   split at h
   ·rename_i hc2
    exact ⟨_, h, fun R' k' => by unfold thaw; simp only [ht, hc, hc2]⟩
   ·cases h
 ·rename_i v hne ht
  refine ⟨s, h, fun R' k' => ?_⟩
  unfold thaw
  split
  ·rename_i nl ks rows j ht'
   rw [ht] at ht'
   exact absurd (Option.some.inj ht') (hne _ _ _ _)
  ·rfl
  ·rename_i ht'; rw [ht] at ht'; cases ht'
 ·cases h
theorem freeze_pick {t : Nat} {s : St} {R : Type} {k : St → Option R} {r : R} (h : freeze t s k = some r) : ∃ s', k s' = some r ∧ ∀ (R' : Type) (k' : St → Option R'), freeze t s k' = k' s' := by
 unfold freeze at h
 split at h
 ·rename_i slot ks off n c ht
  split at h
  ·rename_i ks2 rows hl
   split at h
   ·rename_i hc
    split at h
    ·rename_i hlen
     obtain ⟨h1, h2⟩ := chillMK_pick _ h
     exact ⟨_, h1, fun R' k' => by unfold freeze; simp only [ht, hl, hc, if_pos hlen]; exact h2 R' _⟩
    ·cases h
   ·cases h
  ·cases h
 ·rename_i v hne ht
  refine ⟨s, h, fun R' k' => ?_⟩
  unfold freeze
  split
  ·rename_i slot ks off n c ht'
   rw [ht] at ht'
   exact absurd (Option.some.inj ht') (hne _ _ _ _ _)
  ·rfl
  ·rename_i ht'; rw [ht] at ht'; cases ht'
 ·cases h
theorem niled_pick {t : Nat} {s : St} {R : Type} {k : St → Option R} {r : R} (h : niled t s k = some r) : ∃ s', k s' = some r ∧ ∀ (R' : Type) (k' : St → Option R'), niled t s k' = k' s' := by
 unfold niled at h
 split at h
 ·rename_i nl ks rows r0 ht
  cases nl with
  |true => exact ⟨_, h, fun R' k' => by unfold niled; simp only [ht]⟩
  |false => exact ⟨_, h, fun R' k' => by unfold niled; simp only [ht]⟩
 ·rename_i v hne ht
  refine ⟨s, h, fun R' k' => ?_⟩
  unfold niled
  split
  ·rename_i nl ks rows r0 ht'
   rw [ht] at ht'
   exact absurd (Option.some.inj ht') (hne _ _ _ _)
  ·rfl
  ·rename_i ht'; rw [ht] at ht'; cases ht'
 ·cases h
theorem renTok_pick {t : Nat} {s : St} {R : Type} {k : St → Option R} {r : R} (h : renTok t s k = some r) : ∃ s', k s' = some r ∧ ∀ (R' : Type) (k' : St → Option R'), renTok t s k' = k' s' := by
 unfold renTok at h
 split at h
 ·rename_i nl ks rows j ht
  exact ⟨_, h, fun R' k' => by unfold renTok; simp only [ht]⟩
 ·rename_i v hne ht
  refine ⟨s, h, fun R' k' => ?_⟩
  unfold renTok
  split
  ·rename_i nl ks rows r0 ht'
   rw [ht] at ht'
   exact absurd (Option.some.inj ht') (hne _ _ _ _)
  ·rfl
  ·rename_i ht'; rw [ht] at ht'; cases ht'
 ·cases h
theorem atE_pick {sl idx n : Nat} {s : St} {R : Type} {k : St → Option R} {r : R} (h : atE sl idx n k s = some r) : ∃ s', k s' = some r ∧ ∀ (R' : Type) (k' : St → Option R'), atE sl idx n k' s = k' s' := by
 unfold atE at h
 split at h
 ·rename_i c hc
  split at h
  ·rename_i cs hl
   split at h
   ·rename_i c0 h0
    split at h
    ·rename_i ho
     exact ⟨_, h, fun R' k' => by unfold atE; simp only [hc, hl, h0, ho]⟩
    ·cases h
   ·cases h
  ·cases h
 ·cases h
theorem atM_pick {sl idx : Nat} {s : St} {R : Type} {k : St → Option R} {r : R} (f : ∀ {R : Type}, Nat → St → (St → Option R) → Option R)
  (hf : ∀ {R : Type} {t : Nat} {s : St} {k : St → Option R} {r : R}, f t s k = some r → ∃ s', k s' = some r ∧ ∀ (R' : Type) (k' : St → Option R'), f t s k' = k' s')
  (h : atM sl idx (fun t s k => f t s k) s k = some r) : ∃ s', k s' = some r ∧ ∀ (R' : Type) (k' : St → Option R'), atM sl idx (fun t s k => f t s k) s k' = k' s' := by
 unfold atM at h
 split at h
 ·rename_i cs hl
  split at h
  ·rename_i c hc
   split at h
   ·rename_i ho
    obtain ⟨s1, h1, h2⟩ := hf h
    obtain ⟨s2, h3, h4⟩ := atE_pick h1
    exact ⟨s2, h3, fun R' k' => by unfold atM; simp only [hl, hc, ho]; rw [h2]; exact h4 R' k'⟩
   ·rename_i ho
    exact ⟨s, h, fun R' k' => by unfold atM; simp only [hl, hc, ho]⟩
  ·rename_i hc
   exact ⟨s, h, fun R' k' => by unfold atM; simp only [hl, hc]⟩
 ·rename_i hl
  exact ⟨s, h, fun R' k' => by unfold atM; simp only [hl]⟩
theorem pre_pick {R : Type} {k : St → Option R} {r : R} : ∀ {l : List Nat} {s : St}, pre l s k = some r → ∃ s', k s' = some r ∧ ∀ (R' : Type) (k' : St → Option R'), pre l s k' = k' s'
 |[], s, h => ⟨s, h, fun _ _ => rfl⟩
 |0 :: t :: slot :: l, s, h => by
  obtain ⟨s1, h1, h2⟩ := thaw_pick h
  obtain ⟨s2, h3, h4⟩ := pre_pick h1
  exact ⟨s2, h3, fun R' k' => (h2 R' _).trans (h4 R' k')⟩
 |1 :: t :: l, s, h => by
  obtain ⟨s1, h1, h2⟩ := freeze_pick h
  obtain ⟨s2, h3, h4⟩ := pre_pick h1
  exact ⟨s2, h3, fun R' k' => (h2 R' _).trans (h4 R' k')⟩
 |2 :: t :: l, s, h => by
  obtain ⟨s1, h1, h2⟩ := niled_pick h
  obtain ⟨s2, h3, h4⟩ := pre_pick h1
  exact ⟨s2, h3, fun R' k' => (h2 R' _).trans (h4 R' k')⟩
 |3 :: slot :: l, s, h => by
  simp only [pre, bareAt] at h
  split at h
  ·rename_i cs hcs
   obtain ⟨s2, h3, h4⟩ := pre_pick h
   exact ⟨s2, h3, fun R' k' => by simp only [pre, bareAt, hcs]; exact h4 R' k'⟩
  ·rename_i hcs
   obtain ⟨s2, h3, h4⟩ := pre_pick h
   exact ⟨s2, h3, fun R' k' => by simp only [pre, bareAt, hcs]; exact h4 R' k'⟩
 |[0], s, h => by cases h
 |[0, _], s, h => by cases h
 |[1], s, h => by cases h
 |[2], s, h => by cases h
 |4 :: slot :: idx :: l, s, h => by
  obtain ⟨s1, h1, h2⟩ := atM_pick (fun {R} t s k => freeze (R := R) t s k) (fun h => freeze_pick h) h
  obtain ⟨s2, h3, h4⟩ := pre_pick h1
  exact ⟨s2, h3, fun R' k' => (h2 R' _).trans (h4 R' k')⟩
 |5 :: slot :: idx :: l, s, h => by
  obtain ⟨s1, h1, h2⟩ := atM_pick (fun {R} t s k => renTok (R := R) t s k) (fun h => renTok_pick h) h
  obtain ⟨s2, h3, h4⟩ := pre_pick h1
  exact ⟨s2, h3, fun R' k' => (h2 R' _).trans (h4 R' k')⟩
 |6 :: slot :: idx :: new :: l, s, h => by
  simp only [pre] at h
  split at h
  ·cases h
  ·rename_i hne
   obtain ⟨s1, h1, h2⟩ := atM_pick (fun {R} t s k => thaw (R := R) t new s k) (fun h => thaw_pick h) h
   obtain ⟨s2, h3, h4⟩ := pre_pick h1
   exact ⟨s2, h3, fun R' k' => by simp only [pre, hne]; exact (h2 R' _).trans (h4 R' k')⟩
 |7 :: src :: dst :: l, s, h => by
  simp only [pre, renSlot] at h
  split at h
  ·rename_i cs hcs
   split at h
   ·rename_i hc
    obtain ⟨s2, h3, h4⟩ := pre_pick h
    exact ⟨s2, h3, fun R' k' => by simp only [pre, renSlot, hcs, hc]; exact h4 R' k'⟩
   ·cases h
  ·rename_i hcs
   obtain ⟨s2, h3, h4⟩ := pre_pick h
   exact ⟨s2, h3, fun R' k' => by simp only [pre, renSlot, hcs]; exact h4 R' k'⟩
 |[7], s, h => by cases h
 |[7, _], s, h => by cases h
 |[3], s, h => by cases h
 |[4], s, h => by cases h
 |[5], s, h => by cases h
 |[6], s, h => by cases h
 |[4, _], s, h => by cases h
 |[5, _], s, h => by cases h
 |[6, _], s, h => by cases h
 |[6, _, _], s, h => by cases h
 |(n + 8) :: l, s, h => by rcases l with _ | ⟨_, _ | ⟨_, _ | ⟨_, _⟩⟩⟩ <;> cases h

theorem regE_pick (hΦ : Pick Φ) {R : Type} {lv : Live} {all : List Oper} {k : St → Option R} {kp : AV → St → Option R} {r : R} : ∀ (l : List Oper) (s : St), regE P Φ lv all l s k kp = some r →
  ∃ g : Rg, g.at k kp = some r ∧ ∀ (R' : Type) (k' : St → Option R') (kp' : AV → St → Option R'), regE P Φ lv all l s k' kp' = g.at k' kp'
 |[], s, h => ⟨.go s, h, fun _ _ _ => rfl⟩
 |o :: l, s, h => by
  have step : ∀ s, stepE P Φ o s (fun s' => regE P Φ lv all l s' k kp) kp = some r → ∃ g : Rg, g.at k kp = some r ∧ ∀ (R' : Type) (k' : St → Option R') (kp' : AV → St → Option R'), stepE P Φ o s (fun s' => regE P Φ lv all l s' k' kp') kp' = g.at k' kp' := by
   intro s h
   obtain ⟨g, h1, h2⟩ := stepE_pick hΦ h
   cases g with
   |go s' =>
    obtain ⟨g, h3, h4⟩ := regE_pick hΦ l s' h1
    exact ⟨g, h3, fun R' k' kp' => (h2 R' _ _).trans (h4 R' _ _)⟩
   |pan v s' => exact ⟨.pan v s', h1, fun R' k' kp' => h2 R' _ _⟩
  simp only [regE] at h
  obtain ⟨s, h, hp⟩ := pre_pick h
  unfold reg1 at h
  split at h
  ·rename_i hg
   obtain ⟨g, h1, h2⟩ := step s h
   exact ⟨g, h1, fun R' k' kp' => by simp only [regE]; rw [hp]; simp only [reg1, hg]; exact h2 R' k' kp'⟩
  ·rename_i j want hg
   split at h
   ·cases h
   ·rename_i d hd
    split at h
    ·rename_i b hb
     cases b <;> cases want <;> simp only at h
     ·obtain ⟨g, h1, h2⟩ := step _ h
      exact ⟨g, h1, fun R' k' kp' => by simp only [regE]; rw [hp]; simp only [reg1, hg, hd, hb]; exact h2 R' k' kp'⟩
     ·obtain ⟨g, h1, h2⟩ := regE_pick hΦ l _ h
      exact ⟨g, h1, fun R' k' kp' => by simp only [regE]; rw [hp]; simp only [reg1, hg, hd, hb]; exact h2 R' k' kp'⟩
     ·obtain ⟨g, h1, h2⟩ := regE_pick hΦ l _ h
      exact ⟨g, h1, fun R' k' kp' => by simp only [regE]; rw [hp]; simp only [reg1, hg, hd, hb]; exact h2 R' k' kp'⟩
     ·obtain ⟨g, h1, h2⟩ := step _ h
      exact ⟨g, h1, fun R' k' kp' => by simp only [regE]; rw [hp]; simp only [reg1, hg, hd, hb]; exact h2 R' k' kp'⟩
    ·rename_i hb
     obtain ⟨g, h1, h2⟩ := regE_pick hΦ l _ h
     exact ⟨g, h1, fun R' k' kp' => by simp only [regE]; rw [hp]; simp only [reg1, hg, hd, hb]; exact h2 R' k' kp'⟩
    ·cases h

theorem den_pick (hΦ : Pick Φ) (lv : Live) (n : Nat) : ∀ (c : Code) (R : Type) (K : Ex → St → Option R) (r : R) (s : St), den P Φ lv n c K s = some r → ∃ e s', K e s' = some r ∧ ∀ (R' : Type) (K' : Ex → St → Option R'), den P Φ lv n c K' s = K' e s' := by
 intro c
 induction c with
 |skip => intro R K r s h; exact ⟨.normal, s, h, fun _ _ => rfl⟩
 |region id ops draw =>
  intro R K r s h
  simp only [den, St.force_eq] at h ⊢
  obtain ⟨s0, h, hp⟩ := pre_pick h
  cases draw with
  |false =>
   obtain ⟨g, h1, h2⟩ := regE_pick hΦ ops.toList s0 h
   cases g with
   |go s' => exact ⟨.normal, s', h1, fun R' K' => (hp R' _).trans (h2 R' _ _)⟩
   |pan v s' => exact ⟨.pan v, s', h1, fun R' K' => (hp R' _).trans (h2 R' _ _)⟩
  |true =>
   obtain ⟨g, h1, h2⟩ := regA_pick hΦ h
   cases g with
   |go s' => exact ⟨.normal, s', h1, fun R' K' => (hp R' _).trans (h2 R' _ _)⟩
   |pan v s' => exact ⟨.pan v, s', h1, fun R' K' => (hp R' _).trans (h2 R' _ _)⟩
 |seq a b iha ihb =>
  intro R K r s h
  simp only [den] at h ⊢
  obtain ⟨e, s', h1, h2⟩ := iha _ _ _ _ h
  cases e with
  |normal =>
   obtain ⟨e2, s2, h3, h4⟩ := ihb _ _ _ _ h1
   exact ⟨e2, s2, h3, fun R' K' => by rw [h2]; exact h4 R' K'⟩
  |exit id => exact ⟨_, s', h1, fun R' K' => by rw [h2]⟩
  |ret => exact ⟨_, s', h1, fun R' K' => by rw [h2]⟩
  |pan v => exact ⟨_, s', h1, fun R' K' => by rw [h2]⟩
 |cond c a b iha ihb =>
  intro R K r s h
  simp only [den] at h ⊢
  split at h
  ·rename_i x hx
   cases x with
   |true =>
    obtain ⟨e, s', h1, h2⟩ := iha _ _ _ _ h
    exact ⟨e, s', h1, fun R' K' => by simp only [hx]; exact h2 R' K'⟩
   |false =>
    obtain ⟨e, s', h1, h2⟩ := ihb _ _ _ _ h
    exact ⟨e, s', h1, fun R' K' => by simp only [hx]; exact h2 R' K'⟩
  ·cases h
 |block id b ih =>
  intro R K r s h
  simp only [den] at h ⊢
  obtain ⟨e, s', h1, h2⟩ := ih _ _ _ _ h
  cases e with
  |normal => exact ⟨_, s', h1, fun R' K' => by rw [h2]⟩
  |exit j =>
   simp only at h1
   cases hj : Nat.beq j id with
   |true => rw [hj] at h1; exact ⟨_, s', h1, fun R' K' => by rw [h2]; simp only [hj, if_true]⟩
   |false => rw [hj] at h1; exact ⟨_, s', h1, fun R' K' => by rw [h2]; simp only [hj]; rfl⟩
  |ret => exact ⟨_, s', h1, fun R' K' => by rw [h2]⟩
  |pan v => exact ⟨_, s', h1, fun R' K' => by rw [h2]⟩
 |loop b ih =>
  intro R K r s h
  simp only [den] at h ⊢
  split at h
  ·rename_i tl ml hlv
   split at h
   ·rename_i s' hn
    obtain ⟨e, s2, h1, h2⟩ := loopE_pick (q := key b) (tl := tl) (ml := ml) (body := fun R K s => den P Φ lv n b K s) (fun R K r s h => ih R K r s h) n s' h
    exact ⟨e, s2, h1, fun R' K' => by first | exact h2 R' K' | (simp only [hlv, hn]; exact h2 R' K')⟩
   ·cases h
  ·cases h
 |exit id => intro R K r s h; exact ⟨_, s, h, fun _ _ => rfl⟩
 |ret =>
  intro R K r s h
  simp only [den] at h ⊢
  obtain ⟨s0, h, hp⟩ := pre_pick h
  exact ⟨.ret, s0, h, fun R' K' => hp R' _⟩
 |rangeFunc => intro R K r s h; simp [den] at h
 |scope b ih => intro R K r s h; exact ih R K r s h
 |label l => intro R K r s h; exact ⟨_, s, h, fun _ _ => rfl⟩
 |goto => intro R K r s h; simp [den] at h
 |refuse => intro R K r s h; simp [den] at h

theorem resE_pick {s : St} : ∀ (l : List ResultVar) {R : Type} (k : List AV → Option R) (r : R), resE P s l k = some r → ∃ vs, k vs = some r ∧ ∀ (R' : Type) (k' : List AV → Option R'), resE P s l k' = k' vs
 |[], R, k, r, h => ⟨[], h, fun _ _ => rfl⟩
 | .tmp t :: l, R, k, r, h => by
  simp only [resE] at h
  split at h
  ·rename_i v hv
   obtain ⟨vs, h1, h2⟩ := resE_pick l _ _ h
   exact ⟨v :: vs, h1, fun R' k' => by simp only [resE, hv]; exact h2 R' _⟩
  ·cases h
 | .cell a t :: l, R, k, r, h => by
  simp only [resE] at h
  split at h
  ·rename_i v hv
   obtain ⟨eff, h1, h2⟩ := loadE_pick h
   obtain ⟨vs, h3, h4⟩ := resE_pick l _ _ h1
   exact ⟨eff.val :: vs, h3, fun R' k' => by simp only [resE, hv]; rw [h2]; exact h4 R' _⟩
  ·cases h
theorem fin_pick {fn : Func} {keep : Bool} {ext : List (List AV)} {R : Type} {K : Out → Option R} {e : Ex} {s : St} {r : R} (h : fin P fn keep ext K e s = some r) : ∃ out, K out = some r ∧ ∀ (R' : Type) (K' : Out → Option R'), fin P fn keep ext K' e s = K' out := by
 have res : (resE P s fn.results.toList fun vs => match canon (keep && !lentX ext) vs, extX s.m ext with
  |some v, some ex => K ⟨false, v, ex⟩
  |_, _ => none) = some r → ∃ out, K out = some r ∧ ∀ (R' : Type) (K' : Out → Option R'), (resE P s fn.results.toList fun vs => match canon (keep && !lentX ext) vs, extX s.m ext with
  |some v, some ex => K' ⟨false, v, ex⟩
  |_, _ => none) = K' out := by
  intro h
  obtain ⟨vs, h1, h2⟩ := resE_pick _ _ _ h
  split at h1
  ·rename_i v ex hv hex
   exact ⟨_, h1, fun R' K' => by rw [h2]; simp only [hv, hex]⟩
  ·cases h1
 unfold fin at h
 cases e with
 |exit id => cases h
 |pan v =>
  simp only at h
  split at h
  ·rename_i ex hex
   exact ⟨_, h, fun R' K' => by unfold fin; simp only [hex]⟩
  ·cases h
 |normal => obtain ⟨out, h1, h2⟩ := res h; exact ⟨out, h1, fun R' K' => h2 R' K'⟩
 |ret => obtain ⟨out, h1, h2⟩ := res h; exact ⟨out, h1, fun R' K' => h2 R' K'⟩
theorem denFn_pick (hΦ : Pick Φ) {lv : Live} {n : Nat} {fn : Func} {keep : Bool} {args : List AV} {ext : List (List AV)} {R : Type} {K : Out → Option R} {r : R} (h : denFn P Φ lv n fn keep args ext K = some r) :
  ∃ out, K out = some r ∧ ∀ (R' : Type) (K' : Out → Option R'), denFn P Φ lv n fn keep args ext K' = K' out := by
 unfold denFn at h
 split at h
 ·cases h
 ·rename_i c hc
  split at h
  ·rename_i hle
   obtain ⟨e, s', h1, h2⟩ := den_pick hΦ lv n c _ _ _ _ h
   obtain ⟨out, h3, h4⟩ := fin_pick h1
   exact ⟨out, h3, fun R' K' => by unfold denFn; simp only [hc, hle, if_true]; rw [h2]; exact h4 R' K'⟩
  ·cases h

def Tab.named (P : Program) : Tab → Bool
 |[] => true
 |(f, _) :: l => (match P.funcs[f]? with | some fn => fn.name != "runtime.NumGoroutine" | none => true) && Tab.named P l
theorem Tab.named_get {P : Program} : ∀ {T : Tab}, Tab.named P T = true → ∀ {f : FuncId} {lv : Live × List Nat}, Tab.live T f = some lv → ∀ {fn : Func}, P.funcs[f]? = some fn → fn.name ≠ "runtime.NumGoroutine"
 |[], _, f, lv, h, _, _ => by simp [Tab.live] at h
 |(g, l0) :: T, h, f, lv, hl, fn, hf => by
  simp only [Tab.named, Bool.and_eq_true] at h
  simp only [Tab.live] at hl
  split at hl
  ·rename_i hg
   rw [beq_eq] at hg
   subst hg
   have := h.1
   rw [hf] at this
   simpa using this
  ·exact Tab.named_get h.2 hl hf
theorem inl_ok {P : Program} {T : Tab} {n : Nat} {Φ : Orc} (hmix : P.follows .mixedOrders = true) (hT : Tab.named P T = true) (hp : Pick Φ) (hs : OSound P Φ) : ∀ d h, Pick (inl P T n Φ d h) ∧ OSound P (inl P T n Φ d h)
 |0, h => ⟨hp, hs⟩
 |d + 1, h => by
  have ih := inl_ok (n := n) hmix hT hp hs d
  have pk : Pick (inl P T n Φ (d + 1) h) := by
   intro R f args ext k r h
   simp only [inl] at h ⊢
   split at h
   ·rename_i ht
    obtain ⟨out, h1, h2⟩ := hp _ _ _ _ _ _ h
    exact ⟨out, h1, fun R' k' => by simp only [h2]⟩
   ·rename_i lv hs' ht
    split at h
    ·rename_i fn hf
     obtain ⟨out, h1, h2⟩ := denFn_pick (ih hs').1 h
     exact ⟨out, h1, fun R' k' => by simp only [h2]⟩
    ·cases h
  refine ⟨pk, ?_⟩
  intro R f args ext k r h
  simp only [inl] at h
  split at h
  ·exact hs _ _ _ _ _ _ h
  ·rename_i lv hs' ht
   split at h
   ·rename_i fn hf
    obtain ⟨out, h1, h2⟩ := denFn_pick (ih hs').1 h
    exact ⟨out, fn_ok (ih hs').2 hmix hf (Tab.named_get hT ht hf) (h2 Out some), h1⟩
   ·cases h
theorem pick_none (hs : List Nat) : Pick ⟨fun _ _ _ _ _ => none, hs⟩ := fun _ _ _ _ _ _ h => by cases h
end Go.Den
namespace Go.Den
theorem bareLL_get : ∀ {l : List (List AV)} {i : Nat} {cs : List AV}, (bareLL l)[i]? = some cs → ∃ c0, l[i]? = some c0 ∧ (cs = AV.bareL c0 ∨ cs = c0)
 |[], i, cs, h => by simp [bareLL] at h
 |c :: l, 0, cs, h => by
  simp only [bareLL, List.getElem?_cons_zero, Option.some.injEq] at h
  refine ⟨c, rfl, ?_⟩
  split at h
  ·exact .inl h.symm
  ·exact .inr h.symm
 |c :: l, i + 1, cs, h => by simp only [bareLL, List.getElem?_cons_succ] at h; simpa using bareLL_get h
theorem topToks_bare : ∀ l : List AV, topToks (AV.bareL l) = []
 |[] => rfl
 |a :: l => by
  simp only [AV.bareL, topToks]
  rw [topToks_bare l]
  cases a <;> simp [AV.bare, AV.topTok, Right.toks]
theorem tokLL_of_bare : ∀ {l : List (List AV)}, AV.hasTokLL (bareLL l) = false → AV.hasTokLL l = false
 |[], _ => rfl
 |c :: l, h => by
  simp only [bareLL, AV.hasTokLL, Bool.or_eq_false_iff] at h ⊢
  refine ⟨?_, tokLL_of_bare h.2⟩
  have h1 := h.1
  cases hc : topToks c with
  |nil => rfl
  |cons z y => simp only [hc] at h1; cases h1
theorem bareLL_length : ∀ l : List (List AV), (bareLL l).length = l.length
 |[] => rfl
 |c :: l => by simp [bareLL, bareLL_length l]
theorem contract_bareE {P : Program} {f : FuncId} {args : List AV} {ext : List (List AV)} {out : Out} (h : Contract P f args (bareLL ext) out) : Contract P f args ext out := by
 have hre : ∀ {w : World} {x : X} {E L : List Nat}, Inv ⟨P, w, x, E, [], L⟩ x w (zipExt 1000 ext) → Inv ⟨P, w, x, E, [], L⟩ x w (zipExt 1000 (bareLL ext)) := by
  intro w x E L hI
  refine hI.refill ?_
  intro k cs hk
  rw [lookup_zipExt] at hk ⊢
  split at hk
  ·rename_i hle
   rw [if_pos hle]
   obtain ⟨c0, h0, h1 | h1⟩ := bareLL_get hk
   ·subst h1
    exact ⟨c0, h0, ⟨virgin_bare, isMp_bare c0⟩, fun _ _ _ _ _ hc => hc.bare rfl ⟨rfl, rfl, rfl⟩⟩
   ·subst h1
    exact ⟨cs, h0, ⟨id, rfl⟩, fun _ _ _ _ _ hc => hc⟩
  ·cases hk
 rcases h with h | ⟨h1, h2, h3, h⟩
 ·refine .inl ⟨h.1, fun w x E L vs htk hI hr => ?_⟩
  have := h.2 w x E L vs (fun hh => htk (by
   rw [Bool.or_eq_false_iff] at hh ⊢
   exact ⟨hh.1, tokLL_of_bare hh.2⟩)) (hre hI) hr
  rw [bareLL_length] at this
  exact this
 ·rw [bareLL_length] at h3
  refine .inr ⟨h1, h2, h3, fun w x E vs htk hI hr => ?_⟩
  have := h w x E vs htk (hre hI) hr
  rw [bareLL_length] at this
  exact this
def Spec1Ok (P : Program) (f : FuncId) (g : Spec1) : Prop := ∀ R args ext k r, g R args ext k = some r → ∃ out, Contract P f args ext out ∧ k out = some r ∧ ∀ R' k', g R' args ext k' = k' out
def SpecOk (P : Program) (σ : Spec) : Prop := ∀ f, Spec1Ok P f (fun R => σ R f)
theorem SpecOk.pick {P : Program} {σ : Spec} (h : SpecOk P σ) (hs : List Nat) : Pick (σ.orc hs) := by
 intro R f args ext k r hr
 obtain ⟨out, _, h2, h3⟩ := h f R _ _ k r hr
 exact ⟨out, h2, fun R' k' => h3 R' k'⟩
theorem SpecOk.sound {P : Program} {σ : Spec} (h : SpecOk P σ) (hs : List Nat) : OSound P (σ.orc hs) := by
 intro R f args ext k r hr
 obtain ⟨out, h1, h2, _⟩ := h f R _ _ k r hr
 exact ⟨out, contract_bareE h1, h2⟩
theorem SpecOk.none (P : Program) : SpecOk P Spec.none := fun _ _ _ _ _ _ h => by cases h
theorem sp_ok {P : Program} {f0 : FuncId} {g : Spec1} {τ : Spec} (h : Spec1Ok P f0 g) (h' : SpecOk P τ) : SpecOk P (sp f0 g τ) := by
 intro f R args ext k r ho
 simp only [sp] at ho ⊢
 split at ho
 ·rename_i hf
  have hf' := beq_eq.1 hf
  subst hf'
  obtain ⟨out, h1, h2, h3⟩ := h R args ext k r ho
  exact ⟨out, h1, h2, fun R' k' => h3 R' k'⟩
 ·rename_i hf
  obtain ⟨out, h1, h2, h3⟩ := h' f R args ext k r ho
  exact ⟨out, h1, h2, fun R' k' => h3 R' k'⟩
theorem with_ok {P : Program} {σ : Spec} {T : Tab} (hmix : P.follows .mixedOrders = true) (hT : Tab.named P T = true) (h : SpecOk P σ) (n d : Nat) (hs : List Nat) : OSound P (with_ P σ T n d hs) :=
 (inl_ok hmix hT (h.pick []) (h.sound []) d hs).2
theorem contract_vac {P : Program} {f : FuncId} {fn : Func} (hf : P.funcs[f]? = some fn) (hb : fn.body.isSome = true) (hn : fn.name ≠ "runtime.NumGoroutine") {args : List AV} {ext : List (List AV)} {out : Out} (h : ∀ x vs, RepL x args vs → False) : Contract P f args ext out :=
 .inl ⟨⟨fn, hf, hb, hn⟩, fun _ x _ _ vs _ _ hr => (h x vs hr).elim⟩
theorem rep_nil {x : X} {ks : List Kd} {rows : Rows} {r : Right} {v : Value} (h : Rep x (.sl true ks rows r) v) : rows = [] := by
 cases h with
 |sl _ _ _ _ _ hd _ => rcases hd.rows with ⟨_, h, _⟩ | ⟨_, _, h, _⟩; exact h; cases h
end Go.Den
namespace Go.Den
theorem wrap_i64 {z : Int} (h1 : -9223372036854775808 ≤ z) (h2 : z < 9223372036854775808) : IntKind.wrap IntKind.i64 z = z := by
 unfold IntKind.wrap
 simp only [IntKind.bits, IntKind.signed]
 first
  |(simp; omega)
  |omega
theorem wrap_succ {j : Nat} (h : j < big) : IntKind.wrap IntKind.i64 ((j : Int) + 1) = ((j + 1 : Nat) : Int) := by
 unfold big at h
 rw [wrap_i64 (by omega) (by omega)]; omega
theorem getD_get {rows : Rows} {j : Nat} (h : j < rows.length) : rows.getD j [] = rows[j] := by
 rw [List.getD_eq_getElem?_getD, List.getElem?_eq_getElem h]; rfl
instance lawfulBytes : LawfulBEq ByteArray where
 eq_of_beq := by
  intro a b h
  cases a; cases b
  rename_i x y
  have h' : (x == y) = true := h
  rw [eq_of_beq h']
 rfl := by
  intro a
  cases a
  rename_i x
  show (x == x) = true
  exact beq_self_eq_true x
end Go.Den
namespace Go.Den
@[reducible] def appX (a b : Rows) : Rows := a ++ b
def obind {α R : Type} (o : Option α) (k : α → Option R) : Option R :=
 match o with
 |some a => k a
 |none => none
@[simp] theorem obind_some {α R : Type} (a : α) (k : α → Option R) : obind (some a) k = k a := rfl
@[simp] theorem obind_none {α R : Type} (k : α → Option R) : obind none k = none := rfl

inductive Sh where
 |b | i (k : IntKind) | s
 |sl (ks : List Kd)
 |slt (ks : List Kd) (j : Nat)
 |agg (l : List Sh) | tup (l : List Sh)
 |pl (k off : Nat) | fn (f : FuncId) (caps : List Sh) | ifc (t : TypeId) (a : Sh)
 |pv (ks : List Kd) (off : Nat)
 |ms (k : Nat) (ks : List Kd) | ms0 (k : Nat) (ks : List Kd) | pa (k : Nat) (ks : List Kd) (j : Nat) | arr (ks : List Kd)
 |nilp | nilf | nili | nilm | junk

mutual
@[reducible] def Sh.ty : Sh → Type
 | .b => Bool
 | .i _ => Int
 | .s => ByteArray
 | .sl _ => Bool × Rows
 | .slt _ _ => Bool × Rows
 | .agg l => Sh.tyL l
 | .tup l => Sh.tyL l
 | .pl _ _ => Unit
 | .fn _ l => Sh.tyL l
 | .ifc _ a => Sh.ty a
 | .pv _ _ => Row
 | .ms _ _ => Nat × Nat × Nat
 | .ms0 _ _ => Nat × Nat
 | .pa _ _ _ => Nat
 | .arr _ => Rows
 | .nilp => Unit
 | .nilf => Unit
 | .nili => Unit
 | .nilm => Unit
 | .junk => Unit
@[reducible] def Sh.tyL : List Sh → Type
 |[] => Unit
 |a :: l => Sh.ty a × Sh.tyL l
end
@[reducible] def Sh.tyLL : List (List Sh) → Type
 |[] => Unit
 |a :: l => Sh.tyL a × Sh.tyLL l

mutual
def Sh.enc : (a : Sh) → a.ty → AV
 | .b, y => .B y
 | .i k, y => .I k y
 | .s, y => .S y
 | .sl ks, y => .sl y.1 ks y.2 .no
 | .slt ks j, y => .sl y.1 ks y.2 (.tok j)
 | .agg l, y => .agg (Sh.encL l y)
 | .tup l, y => .tup (Sh.encL l y)
 | .pl k off, _ => .pl k off
 | .fn f l, y => .fn f (Sh.encL l y)
 | .ifc t a, y => .ifc t (Sh.enc a y)
 | .pv ks off, y => .pv ks y off
 | .ms k ks, y => .ms k ks y.1 y.2.1 y.2.2
 | .ms0 k ks, y => .ms k ks 0 y.1 y.2
 | .pa k ks j, y => .pa k ks y j
 | .arr ks, y => .arr ks y
 | .nilp, _ => .dv (.val (.pointer none))
 | .nilf, _ => .dv (.val .nilFunc)
 | .nili, _ => .dv (.val .nilIface)
 | .nilm, _ => .dv (.val (.map none))
 | .junk, _ => .junk
def Sh.encL : (l : List Sh) → Sh.tyL l → List AV
 |[], _ => []
 |a :: l, y => Sh.enc a y.1 :: Sh.encL l y.2
end
def Sh.encLL : (l : List (List Sh)) → Sh.tyLL l → List (List AV)
 |[], _ => []
 |a :: l, y => Sh.encL a y.1 :: Sh.encLL l y.2

mutual
def Sh.dec : (a : Sh) → AV → Option a.ty
 | .b, v => match v with | .dv (.val (.bool x)) => some x | _ => none
 | .i k, v => match v with | .dv (.val (.int j n)) => (if k = j then some n else none) | _ => none
 | .s, v => match v with | .dv (.val (.string x)) => some x | _ => none
 | .sl ks, v => match v with | .sl n kd rows .no => (match Kd.sameL kd ks with | true => some (n, rows) | false => none) | _ => none
 | .slt ks j, v => match v with | .sl n kd rows (.tok q) => (match Kd.sameL kd ks && Nat.beq q j with | true => some (n, rows) | false => none) | _ => none
 | .agg l, v => match v with | .agg cs => Sh.decL l cs | _ => none
 | .tup l, v => match v with | .tup cs => Sh.decL l cs | _ => none
 | .pl k off, v => match v with | .pl k' off' => (match Nat.beq k' k && Nat.beq off' off with | true => some () | false => none) | _ => none
 | .fn f l, v => match v with | .fn g cs => (match Nat.beq g f with | true => Sh.decL l cs | false => none) | _ => none
 | .ifc t a, v => match v with | .ifc u w => (match Nat.beq u t with | true => Sh.dec a w | false => none) | _ => none
 | .pv ks off, v => match v with | .pv kd row off' => (match Kd.sameL kd ks && Nat.beq off' off with | true => some row | false => none) | _ => none
 | .ms k ks, v => match v with | .ms k' kd off n c => (match Nat.beq k' k && Kd.sameL kd ks with | true => some (off, n, c) | false => none) | _ => none
 | .ms0 k ks, v => match v with | .ms k' kd off n c => (match Nat.beq k' k && (Kd.sameL kd ks && Nat.beq off 0) with | true => some (n, c) | false => none) | _ => none
 | .pa k ks j, v => match v with | .pa k' kd q j' => (match Nat.beq k' k && (Kd.sameL kd ks && Nat.beq j' j) with | true => some q | false => none) | _ => none
 | .arr ks, v => match v with | .arr kd rows => (match Kd.sameL kd ks with | true => some rows | false => none) | _ => none
 | .nilp, v => match v with | .dv (.val (.pointer none)) => some () | _ => none
 | .nilf, v => match v with | .dv (.val .nilFunc) => some () | _ => none
 | .nili, v => match v with | .dv (.val .nilIface) => some () | _ => none
 | .nilm, v => match v with | .dv (.val (.map none)) => some () | _ => none
 | .junk, v => match v with | .junk => some () | _ => none
def Sh.decL : (l : List Sh) → List AV → Option (Sh.tyL l)
 |[], vs => match vs with | [] => some () | _ => none
 |a :: l, vs => match vs with
  |v :: vs => match Sh.dec a v with
   |some x => match Sh.decL l vs with
    |some xs => some (x, xs)
    |none => none
   |none => none
  |[] => none
end
def Sh.decLL : (l : List (List Sh)) → List (List AV) → Option (Sh.tyLL l)
 |[], vs => match vs with | [] => some () | _ => none
 |a :: l, vs => match vs with
  |v :: vs => match Sh.decL a v with
   |some x => match Sh.decLL l vs with
    |some xs => some (x, xs)
    |none => none
   |none => none
  |[] => none

mutual
theorem Sh.dec_enc : ∀ (a : Sh) (v : AV) (y : a.ty), Sh.dec a v = some y → v = Sh.enc a y
 | .b, v, y, h => by unfold Sh.dec at h; split at h <;> cases h; rfl
 | .i k, v, y, h => by
  unfold Sh.dec at h; split at h
  ·split at h
   ·rename_i h1; cases h; subst h1; rfl
   ·cases h
  ·cases h
 | .s, v, y, h => by unfold Sh.dec at h; split at h <;> cases h; rfl
 | .sl ks, v, y, h => by
  unfold Sh.dec at h; split at h
  ·split at h
   ·rename_i h1; cases h; obtain rfl := Kd.sameL_eq h1; rfl
   ·cases h
  ·cases h
 | .slt ks j, v, y, h => by
  unfold Sh.dec at h; split at h
  ·split at h
   ·rename_i h1; simp only [Bool.and_eq_true, beq_eq] at h1; obtain ⟨h1, rfl⟩ := h1; obtain rfl := Kd.sameL_eq h1; cases h; rfl
   ·cases h
  ·cases h
 | .agg l, v, y, h => by
  unfold Sh.dec at h; split at h
  ·rw [Sh.decL_enc l _ y h]; rfl
  ·cases h
 | .tup l, v, y, h => by
  unfold Sh.dec at h; split at h
  ·rw [Sh.decL_enc l _ y h]; rfl
  ·cases h
 | .pl k off, v, y, h => by
  unfold Sh.dec at h; split at h
  ·split at h
   ·rename_i h1; simp only [Bool.and_eq_true, beq_eq] at h1; obtain ⟨rfl, rfl⟩ := h1; rfl
   ·cases h
  ·cases h
 | .fn f l, v, y, h => by
  unfold Sh.dec at h; split at h
  ·split at h
   ·rename_i h1; simp only [beq_eq] at h1; subst h1; rw [Sh.decL_enc l _ y h]; rfl
   ·cases h
  ·cases h
 | .ifc t a, v, y, h => by
  unfold Sh.dec at h; split at h
  ·split at h
   ·rename_i h1; simp only [beq_eq] at h1; subst h1; rw [Sh.dec_enc a _ y h]; rfl
   ·cases h
  ·cases h
 | .pv ks off, v, y, h => by
  unfold Sh.dec at h; split at h
  ·split at h
   ·rename_i h1; simp only [Bool.and_eq_true, beq_eq] at h1; obtain ⟨h1, rfl⟩ := h1; obtain rfl := Kd.sameL_eq h1; cases h; rfl
   ·cases h
  ·cases h
 | .ms k ks, v, y, h => by
  unfold Sh.dec at h; split at h
  ·split at h
   ·rename_i h1; simp only [Bool.and_eq_true, beq_eq] at h1; obtain ⟨rfl, h1⟩ := h1; obtain rfl := Kd.sameL_eq h1; cases h; rfl
   ·cases h
  ·cases h
 | .ms0 k ks, v, y, h => by
  unfold Sh.dec at h; split at h
  ·split at h
   ·rename_i h1; simp only [Bool.and_eq_true, beq_eq] at h1; obtain ⟨rfl, h1, rfl⟩ := h1; obtain rfl := Kd.sameL_eq h1; cases h; rfl
   ·cases h
  ·cases h
 | .pa k ks j, v, y, h => by
  unfold Sh.dec at h; split at h
  ·split at h
   ·rename_i h1; simp only [Bool.and_eq_true, beq_eq] at h1; obtain ⟨rfl, h1, rfl⟩ := h1; obtain rfl := Kd.sameL_eq h1; cases h; rfl
   ·cases h
  ·cases h
 | .arr ks, v, y, h => by
  unfold Sh.dec at h; split at h
  ·split at h
   ·rename_i h1; cases h; obtain rfl := Kd.sameL_eq h1; rfl
   ·cases h
  ·cases h
 | .nilp, v, y, h => by unfold Sh.dec at h; split at h <;> cases h; rfl
 | .nilf, v, y, h => by unfold Sh.dec at h; split at h <;> cases h; rfl
 | .nili, v, y, h => by unfold Sh.dec at h; split at h <;> cases h; rfl
 | .nilm, v, y, h => by unfold Sh.dec at h; split at h <;> cases h; rfl
 | .junk, v, y, h => by unfold Sh.dec at h; split at h <;> cases h; rfl
theorem Sh.decL_enc : ∀ (l : List Sh) (vs : List AV) (y : Sh.tyL l), Sh.decL l vs = some y → vs = Sh.encL l y
 |[], vs, y, h => by unfold Sh.decL at h; split at h <;> cases h; rfl
 |_ :: _, [], y, h => by simp [Sh.decL] at h
 |a :: l, v :: vs, y, h => by
  simp only [Sh.decL] at h
  cases h1 : Sh.dec a v with
  |none => rw [h1] at h; cases h
  |some x =>
   cases h2 : Sh.decL l vs with
   |none => rw [h1, h2] at h; cases h
   |some xs =>
    rw [h1, h2] at h
    cases h
    rw [Sh.dec_enc a v x h1, Sh.decL_enc l vs xs h2]; rfl
end
theorem Sh.decLL_enc : ∀ (l : List (List Sh)) (vs : List (List AV)) (y : Sh.tyLL l), Sh.decLL l vs = some y → vs = Sh.encLL l y
 |[], vs, y, h => by unfold Sh.decLL at h; split at h <;> cases h; rfl
 |_ :: _, [], y, h => by simp [Sh.decLL] at h
 |a :: l, v :: vs, y, h => by
  simp only [Sh.decLL] at h
  cases h1 : Sh.decL a v with
  |none => rw [h1] at h; cases h
  |some x =>
   cases h2 : Sh.decLL l vs with
   |none => rw [h1, h2] at h; cases h
   |some xs =>
    rw [h1, h2] at h
    cases h
    rw [Sh.decL_enc a v x h1, Sh.decLL_enc l vs xs h2]; rfl

mutual
def Sh.dflt : (a : Sh) → a.ty
 | .b => false
 | .i _ => 0
 | .s => ByteArray.mk #[]
 | .sl _ => (true, [])
 | .slt _ _ => (true, [])
 | .agg l => Sh.dfltL l
 | .tup l => Sh.dfltL l
 | .pl _ _ => ()
 | .fn _ l => Sh.dfltL l
 | .ifc _ a => Sh.dflt a
 | .pv _ _ => []
 | .ms _ _ => (0, 0, 0)
 | .ms0 _ _ => (0, 0)
 | .pa _ _ _ => 0
 | .arr _ => []
 | .nilp => ()
 | .nilf => ()
 | .nili => ()
 | .nilm => ()
 | .junk => ()
def Sh.dfltL : (l : List Sh) → Sh.tyL l
 |[] => ()
 |a :: l => (Sh.dflt a, Sh.dfltL l)
end
inductive OSh where
 |plain (so : Sh) (sx : List (List Sh))
 |pan (so sp : Sh) (sx : List (List Sh))
@[reducible] def OSh.ty : OSh → Type
 | .plain so sx => so.ty × Sh.tyLL sx
 | .pan so sp sx => Bool × so.ty × sp.ty × Sh.tyLL sx
def OSh.enc : (o : OSh) → o.ty → Out
 | .plain so sx, y => ⟨false, Sh.enc so y.1, Sh.encLL sx y.2⟩
 | .pan so sp sx, y => ⟨y.1, match y.1 with | true => Sh.enc sp y.2.2.1 | false => Sh.enc so y.2.1, Sh.encLL sx y.2.2.2⟩
def OSh.chk : (o : OSh) → Out → Option o.ty
 | .plain so sx, out => match out.pan with
  |true => none
  |false => match Sh.dec so out.res with
   |some y => match Sh.decLL sx out.ext with
    |some e => some (y, e)
    |none => none
   |none => none
 | .pan so sp sx, out => match out.pan with
  |true => match Sh.dec sp out.res with
   |some y => match Sh.decLL sx out.ext with
    |some e => some (true, Sh.dflt so, y, e)
    |none => none
   |none => none
  |false => match Sh.dec so out.res with
   |some y => match Sh.decLL sx out.ext with
    |some e => some (false, y, Sh.dflt sp, e)
    |none => none
   |none => none
theorem OSh.chk_enc : ∀ (o : OSh) (out : Out) (y : o.ty), o.chk out = some y → out = o.enc y
 | .plain so sx, ⟨pn, res, ext⟩, y, h => by
  unfold OSh.chk at h
  simp only at h
  split at h
  ·cases h
  ·split at h
   ·rename_i u h1
    split at h
    ·rename_i e h2
     cases h
     rw [Sh.dec_enc _ _ _ h1, Sh.decLL_enc _ _ _ h2]; rfl
    ·cases h
   ·cases h
 | .pan so sp sx, ⟨pn, res, ext⟩, y, h => by
  unfold OSh.chk at h
  simp only at h
  split at h
  ·split at h
   ·rename_i u h1
    split at h
    ·rename_i e h2
     cases h
     rw [Sh.dec_enc _ _ _ h1, Sh.decLL_enc _ _ _ h2]; rfl
    ·cases h
   ·cases h
  ·split at h
   ·rename_i u h1
    split at h
    ·rename_i e h2
     cases h
     rw [Sh.dec_enc _ _ _ h1, Sh.decLL_enc _ _ _ h2]; rfl
    ·cases h
   ·cases h

def OSh.run {R : Type} : (o : OSh) → o.ty → (Out → Option R) → Option R
 | .plain so sx, y, K => K ⟨false, Sh.enc so y.1, Sh.encLL sx y.2⟩
 | .pan so sp sx, y, K => match y.1 with
  |true => K ⟨true, Sh.enc sp y.2.2.1, Sh.encLL sx y.2.2.2⟩
  |false => K ⟨false, Sh.enc so y.2.1, Sh.encLL sx y.2.2.2⟩
theorem OSh.run_eq {R : Type} (o : OSh) (y : o.ty) (K : Out → Option R) : o.run y K = K (o.enc y) := by
 cases o with
 |plain so sx => rfl
 |pan so sp sx =>
  obtain ⟨p, y⟩ := y
  cases p <;> rfl
def inst (f0 : FuncId) (sa : List Sh) (se : List (List Sh)) (o : OSh) (v : Sh.tyL sa → Sh.tyLL se → Option o.ty) (τ : Spec) : Spec := fun R f args ext K =>
 match Nat.beq f f0 with
 |true => match Sh.decL sa args with
  |some x => match Sh.decLL se ext with
   |some e => obind (v x e) (fun y => o.run y K)
   |none => τ R f args ext K
  |none => τ R f args ext K
 |false => τ R f args ext K
theorem inst_ok {P : Program} {f0 : FuncId} {sa : List Sh} {se : List (List Sh)} {o : OSh} {v : Sh.tyL sa → Sh.tyLL se → Option o.ty} {τ : Spec}
  (h : ∀ x e y, v x e = some y → Contract P f0 (Sh.encL sa x) (Sh.encLL se e) (o.enc y)) (hτ : SpecOk P τ) : SpecOk P (inst f0 sa se o v τ) := by
 intro f R args ext k r hr
 cases hf : Nat.beq f f0 with
 |false =>
  simp only [inst, hf] at hr ⊢
  exact hτ f R args ext k r hr
 |true =>
  obtain rfl := beq_eq.1 hf
  cases hx : Sh.decL sa args with
  |none =>
   simp only [inst, hf, hx] at hr ⊢
   exact hτ f R args ext k r hr
  |some x =>
   cases he : Sh.decLL se ext with
   |none =>
    simp only [inst, hf, hx, he] at hr ⊢
    exact hτ f R args ext k r hr
   |some e =>
    simp only [inst, hf, hx, he] at hr ⊢
    cases hv : v x e with
    |none => rw [hv] at hr; cases hr
    |some y =>
     rw [hv] at hr
     refine ⟨o.enc y, ?_, (o.run_eq y k).symm.trans hr, fun R' k' => o.run_eq y k'⟩
     rw [Sh.decL_enc _ _ _ hx, Sh.decLL_enc _ _ _ he]
     exact h x e y hv
theorem auto_ok {P : Program} {Φ : Orc} (hΦ : OSound P Φ) (hp : Pick Φ) (hmix : P.follows .mixedOrders = true) {f : FuncId} {fn : Func} (hf : P.funcs[f]? = some fn) (hname : fn.name ≠ "runtime.NumGoroutine") {lv : Live} {n : Nat} {keep : Bool}
  {args : List AV} {ext : List (List AV)} {o : OSh} {y : o.ty} (h : denFn P Φ lv n fn keep args ext o.chk = some y) : Contract P f args ext (o.enc y) := by
 obtain ⟨out, h1, h2⟩ := denFn_pick hp h
 rw [← o.chk_enc out y h1]
 exact fn_ok hΦ hmix hf hname (h2 Out some)
theorem with_pick {P : Program} {σ : Spec} {T : Tab} (hmix : P.follows .mixedOrders = true) (hT : Tab.named P T = true) (h : SpecOk P σ) (n d : Nat) (hs : List Nat) : Pick (with_ P σ T n d hs) :=
 (inl_ok hmix hT (h.pick []) (h.sound []) d hs).1
end Go.Den
namespace Go.Den
mutual
def DV.wf : DV → Bool
 | .val _ => true
 | .sl nl _ rows => (!nl || rows.isEmpty) && Rows.wf rows
def Rowwf : List DV → Bool
 |[] => true
 |d :: r => DV.wf d && Rowwf r
def Rows.wf : List (List DV) → Bool
 |[] => true
 |r :: l => Rowwf r && Rows.wf l
end
mutual
theorem RepD.wf {M : Mm} : ∀ {d v}, RepD M d v → DV.wf d = true
 |_, _, .val v h => rfl
 |_, _, .nil ks => rfl
 |_, _, .sl ks rows a c h1 h2 h3 => by simp only [DV.wf, Bool.not_false, Bool.true_or, Bool.true_and]; exact RowsAt.wf h3
theorem RowsAt.wf {M : Mm} : ∀ {b o ks rows}, RowsAt M b o ks rows → Rows.wf rows = true
 |_, _, _, _, .nil b o ks => rfl
 |_, _, _, _, .cons b o ks row rows h1 h2 h3 => by simp only [Rows.wf, CellsAt.wf h2, RowsAt.wf h3, Bool.and_self]
theorem CellsAt.wf {M : Mm} : ∀ {b o r}, CellsAt M b o r → Rowwf r = true
 |_, _, _, .nil b o => rfl
 |_, _, _, .cons b o d v r h1 h2 h3 => by simp only [Rowwf, RepD.wf h2, CellsAt.wf h3, Bool.and_self]
end
mutual
def AV.wf : AV → Bool
 | .sl nl ks rows _ => DV.wf (.sl nl ks rows)
 | .agg cs => AV.wfL cs
 |_ => true
def AV.wfL : List AV → Bool
 |[] => true
 |a :: l => AV.wf a && AV.wfL l
end
mutual
theorem Rep.wf {x : X} : ∀ {a v}, Rep x a v → AV.wf a = true
 |_, _, .dv d v hd => rfl
 |_, _, .sl n kd rows r v hd hr => RepD.wf hd
 |_, _, .agg cs vs hl => RepL.wf hl
 |_, _, .tup cs vs hl => rfl
 |_, _, .pl k off b hk => rfl
 |_, _, .pv kd row off b o h1 h2 _ => rfl
 |_, _, .fn f cs vs hl => rfl
 |_, _, .ifc t a v ha => rfl
 |_, _, .ms k kd off n c b o c' hk g1 g2 g3 => rfl
 |_, _, .pa k kd i j b hk => rfl
 |_, _, .junk v => rfl
theorem RepL.wf {x : X} : ∀ {l vs}, RepL x l vs → AV.wfL l = true
 |_, _, .nil => rfl
 |_, _, .cons a v l vs ha hl => by simp only [AV.wfL, Rep.wf ha, RepL.wf hl, Bool.and_self]
end
theorem contract_wf {P : Program} {f : FuncId} {fn : Func} (hf : P.funcs[f]? = some fn) (hb : fn.body.isSome = true) (hn : fn.name ≠ "runtime.NumGoroutine") {args : List AV} {ext : List (List AV)} {out : Out}
  (h : AV.wfL args = true → Contract P f args ext out) : Contract P f args ext out := by
 cases hw : AV.wfL args with
 |true => exact h hw
 |false => exact contract_vac hf hb hn fun x vs hr => by rw [hr.wf] at hw; cases hw
theorem DV.wf_sl {nl : Bool} {ks : List Kd} {rows : Rows} : DV.wf (.sl nl ks rows) = true ↔ (nl = true → rows = []) ∧ Rows.wf rows = true := by
 simp only [DV.wf, Bool.and_eq_true, Bool.or_eq_true, Bool.not_eq_true', List.isEmpty_iff]
 constructor
 ·rintro ⟨h1 | h1, h2⟩
  ·exact ⟨fun h => (by rw [h1] at h; cases h), h2⟩
  ·exact ⟨fun _ => h1, h2⟩
 ·rintro ⟨h1, h2⟩
  refine ⟨?_, h2⟩
  cases nl with
  |false => exact .inl rfl
  |true => exact .inr (h1 rfl)
theorem Rows.wf_get {rows : Rows} (h : Rows.wf rows = true) : ∀ {r}, r ∈ rows → Rowwf r = true := by
 induction rows with
 |nil => intro r hr; cases hr
 |cons a l ih =>
  simp only [Rows.wf, Bool.and_eq_true] at h
  intro r hr
  rcases List.mem_cons.1 hr with rfl | hr
  ·exact h.1
  ·exact ih h.2 hr
theorem Rowwf_at : ∀ {r : Row} (j : Nat), Rowwf r = true → DV.wf (Row.at r j) = true
 |[], j, _ => by simp [Row.at, DV.wf]
 |d :: r, 0, h => by simp only [Rowwf, Bool.and_eq_true] at h; exact h.1
 |d :: r, j + 1, h => by simp only [Rowwf, Bool.and_eq_true] at h; exact Rowwf_at (r := r) j h.2
theorem Rowwf_sl {r : Row} (j : Nat) (h : Rowwf r = true) : (Row.N r j = true → Row.R r j = []) ∧ Rows.wf (Row.R r j) = true := by
 have := Rowwf_at j h
 unfold Row.N Row.R
 cases hd : Row.at r j with
 |val v => simp [DV.toNl, DV.toRows, Rows.wf]
 |sl n k rows => rw [hd] at this; exact DV.wf_sl.1 this
theorem getD_mem {rows : Rows} {j : Nat} (h : j < rows.length) : rows.getD j [] ∈ rows := by
 rw [getD_get h]; exact List.getElem_mem h
theorem wrap_small {z : Int} (h1 : -4611686018427387904 ≤ z) (h2 : z ≤ 4611686018427387904) : IntKind.wrap IntKind.i64 z = z := wrap_i64 (by omega) (by omega)
end Go.Den
namespace Go.Den
def Fsl (nl : Bool) (ks : List Kd) (rows : Rows) : Prop := rows.length ≤ reachBytes ∧ (nl = true → rows = []) ∧ RowsFine ks rows ∧ rows.length * kbytes ks ≤ reachBytes
theorem fine_at {r : Row} (h : RowFine r) (j : Nat) : (Row.at r j).Fine ∨ Row.at r j = .val undef := by
 induction r generalizing j with
 |nil => right; rfl
 |cons d r ih =>
  cases j with
  |zero => left; exact h.1
  |succ j => exact ih h.2 j
theorem fine_S {r : Row} {j : Nat} (h : RowFine r) : (Row.S r j).size ≤ reachBytes := by
 unfold Row.S
 rcases fine_at h j with hj | hj
 ·generalize Row.at r j = d at hj
  cases d with
  |val v =>
   cases v <;> first | exact hj | exact Nat.zero_le _
  |sl n k rows => exact Nat.zero_le _
 ·rw [hj]; exact Nat.zero_le _
theorem kd_at : ∀ {ks : List Kd} {r : Row} {j : Nat} {k : Kd}, Row.ofKds ks r = true → ks[j]? = some k → DV.ofKd k (Row.at r j) = true
 |[], r, j, k, _, h => by simp at h
 |k0 :: ks, [], j, k, h, _ => by simp [Row.ofKds] at h
 |k0 :: ks, d :: r, 0, k, h, hk => by
  simp only [Row.ofKds, Bool.and_eq_true] at h
  simp only [List.getElem?_cons_zero, Option.some.injEq] at hk
  subst hk; exact h.1
 |k0 :: ks, d :: r, j + 1, k, h, hk => by
  simp only [Row.ofKds, Bool.and_eq_true] at h
  simp only [List.getElem?_cons_succ] at hk
  exact kd_at (r := r) h.2 hk
theorem fine_I {ks : List Kd} {r : Row} {j : Nat} {k : IntKind} (ho : Row.ofKds ks r = true) (h : RowFine r) (hk : ks[j]? = some (.i k)) : (Lit.int k (Row.I r j)).wf = true := by
 have h1 := kd_at ho hk
 unfold Row.I
 rcases fine_at h j with hj | hj
 ·generalize Row.at r j = d at hj h1
  cases d with
  |val v =>
   cases v <;> first | (cases h1; done) | skip
   rename_i l n
   simp only [DV.ofKd, decide_eq_true_eq] at h1
   subst h1; exact hj
  |sl n k rows => cases h1
 ·rw [hj] at h1; cases h1
theorem fine_sl {ks : List Kd} {r : Row} {j : Nat} {kd : List Kd} (ho : Row.ofKds ks r = true) (h : RowFine r) (hk : ks[j]? = some (.sl kd)) : Fsl (Row.N r j) kd (Row.R r j) := by
 have h1 := kd_at ho hk
 unfold Row.N Row.R
 rcases fine_at h j with hj | hj
 ·generalize Row.at r j = d at hj h1
  cases d with
  |val v => cases v <;> cases h1
  |sl n k rows =>
   simp only [DV.ofKd] at h1
   obtain rfl := Kd.sameL_eq h1
   exact hj
 ·rw [hj] at h1; cases h1
theorem rowsFine_mem {ks : List Kd} {rows : Rows} (h : RowsFine ks rows) : ∀ {r}, r ∈ rows → Row.ofKds ks r = true ∧ RowFine r := by
 induction rows with
 |nil => intro r hr; cases hr
 |cons a l ih =>
  intro r hr
  rcases List.mem_cons.1 hr with rfl | hr
  ·exact ⟨h.1, h.2.1⟩
  ·exact ih h.2.2 hr
theorem rowsFine_get {ks : List Kd} {rows : Rows} (h : RowsFine ks rows) {j : Nat} (hj : j < rows.length) : Row.ofKds ks rows[j] = true ∧ RowFine rows[j] := rowsFine_mem h (List.getElem_mem hj)
theorem lit_i64 {z : Int} (h : (Lit.int .i64 z).wf = true) : -9223372036854775808 ≤ z ∧ z < 9223372036854775808 := by
 simp only [Lit.wf, Bool.and_eq_true, decide_eq_true_eq] at h
 have h1 : IntKind.min .i64 = -9223372036854775808 := by decide
 have h2 : IntKind.max .i64 = 9223372036854775807 := by decide
 omega
end Go.Den
namespace Go.Den
variable {R : Type} {res : R}

theorem Inv.setD {e : Env} {x : X} {w : World} {m : Mem} (h : Inv e x w m) (D : List Deferred) : Inv { e with D := D } x w m :=
 ⟨h.sub, h.slot, h.inj, h.tok, h.tokslot, h.toktok, h.os, h.tape, h.output, h.size, h.old, h.mono, h.new, h.ext, h.low, ⟨h.more.room, h.more.ext, h.more.M0, h.more.vir, h.more.drawn⟩, h.glob⟩

theorem Inv.callee {e : Env} {x : X} {w : World} {m : Mem} (hI : Inv e x w m) {ks : List Nat} {ext : List (List AV)} (hnd : ks.Nodup) (hext : cellsOf m ks ks = some ext) (D : List Deferred) :
  Inv ⟨e.P, w, x.callee ks, ks.filterMap x.loc, D, []⟩ (x.callee ks) w (zipExt 1000 ext) :=
 hI.enter hnd hext D (ktk := fun _ => none) (L := []) (entry_pass hext _) (fun j a n c sz hj => by cases hj) (fun j j' a n c sz a' n' c' sz' hj => by cases hj) (fun b hb => by cases hb)

theorem Inv.outer {e : Env} {x : X} {w : World} {m : Mem} (h : Inv e x w m) {ks : List Nat} {ext : List (List AV)} (hext : cellsOf m ks ks = some ext) {D : List Deferred} {xc : X} {w' : World} {m' : Mem}
  (hc : Inv ⟨e.P, w, x.callee ks, ks.filterMap x.loc, D, []⟩ xc w' m') : Inv e { M := xc.M, loc := x.loc, tk := fun _ => none, cap := x.cap, M0 := x.M0 } w' (zipExt 1000 []) := by
 obtain ⟨hl1, hget⟩ := cellsOf_get hext
 refine ⟨hc.sub, fun k cs hk => by simp [zipExt, lookup] at hk, fun k k' cs cs' b hk => by simp [zipExt, lookup] at hk, fun k v sz hk => by simp at hk, fun k a n c sz j cs hk => by simp at hk, fun k k' a n c sz a' n' c' sz' hk => by simp at hk,
  hc.os.trans h.os, hc.tape.trans h.tape, hc.output.trans h.output, Nat.le_trans h.size hc.size, ?_, h.mono.trans hc.mono, ?_, h.ext, h.low, ⟨fun k b cs hk => by simp [zipExt, lookup] at hk, h.more.ext, h.more.M0, fun k b cs arr ty hk => by simp [zipExt, lookup] at hk, Nat.le_trans h.more.drawn hc.more.drawn⟩, h.glob⟩
 ·intro b hb hbE hbL
  have hnE : b ∉ ks.filterMap x.loc := by
   intro hE
   obtain ⟨k, hk1, hk2⟩ := List.mem_filterMap.1 hE
   obtain ⟨i, hi⟩ := List.getElem?_of_mem hk1
   obtain ⟨cs, hcs, _⟩ := hget i k hi
   obtain ⟨b', _, _, q1, q2, _⟩ := h.slot k cs hcs
   rw [hk2] at q1
   obtain rfl := Option.some.inj q1
   rcases q2 with q2 | q2
   ·omega
   ·exact hbE q2.1
  have := hc.old b (by have := h.size; simp only; omega) hnE
  rw [this (by simp)]; exact h.old b hb hbE hbL
 ·intro b o v hv
  rcases hc.new b o v hv with h1 | h1 | h1
  ·exact h.new b o v h1
  ·right; left; simp only at h1; have := h.size; omega
  ·cases h1

mutual
theorem Rep.loose {x x' : X} (hM : x'.M = x.M) : ∀ {a v}, Rep x a v → a.loose = true → Rep x' a v
 |_, _, .dv d v h, _ => .dv d v (by rw [hM]; exact h)
 |_, _, .sl n kd rows r v h hr, ht => by
  refine .sl n kd rows r v (by rw [hM]; exact h) ?_
  cases r with
  |no => trivial
  |ex => exact hr
  |tok k => simp [AV.loose] at ht
  |old => simp [AV.loose] at ht
 |_, _, .agg cs vs h, ht => .agg cs vs (RepL.loose hM h (by simpa [AV.loose] using ht))
 |_, _, .tup cs vs h, ht => .tup cs vs (RepL.loose hM h (by simpa [AV.loose] using ht))
 |_, _, .pl .., ht => by simp [AV.loose] at ht
 |_, _, .pv .., ht => by simp [AV.loose] at ht
 |_, _, .fn .., ht => by simp [AV.loose] at ht
 |_, _, .ifc .., ht => by simp [AV.loose] at ht
 |_, _, .ms .., ht => by simp [AV.loose] at ht
 |_, _, .pa .., ht => by simp [AV.loose] at ht
 |_, _, .junk v, _ => .junk v
theorem RepL.loose {x x' : X} (hM : x'.M = x.M) : ∀ {l vs}, RepL x l vs → AV.looseL l = true → RepL x' l vs
 |_, _, .nil, _ => .nil
 |_, _, .cons a v l vs ha hl, ht => by
  simp only [AV.looseL, Bool.and_eq_true] at ht
  exact .cons a v l vs (Rep.loose hM ha ht.1) (RepL.loose hM hl ht.2)
end

theorem RepL.pls {x x' : X} (hl : ∀ k, 1000 ≤ k → x'.loc k = x.loc k) : ∀ {l vs}, RepL x l vs → allPl l = true → RepL x' l vs
 |_, _, .nil, _ => .nil
 |_, _, .cons a v l vs ha hls, ht => by
  simp only [allPl, Bool.and_eq_true] at ht
  refine .cons a v l vs ?_ (RepL.pls hl hls ht.2)
  cases ha with
  |pl k off b hb => exact .pl k off b (by rw [hl k (by simpa [AV.isPl] using ht.1)]; exact hb)
  |_ => simp [AV.isPl] at ht

def Left (e : Env) (ext : List (List AV)) (K : Out → Option R) (res : R) (w : World) (pan : Bool) (v : Value) : Prop :=
 ∃ out x', K out = some res ∧ out.pan = pan ∧ out.ext.length = ext.length ∧ Inv e x' w (zipExt 1000 out.ext) ∧ Rep x' out.res v

theorem fin_sound {P : Program} {e : Env} (hP : e.P = P) {fn : Func} {keep : Bool} {ext : List (List AV)} {K : Out → Option R} {ex : Ex} {E : Exit} {s : St} {x : X} {w : World} {a : Act}
  (h : fin P fn keep ext K ex s = some res) (hs : StOk e x w s a) (hex : ExRel x ex E) :
  match E with
  | .normal | .ret => ∃ v, (results fn a.tmps).run P w = .ok v w ∧ Left e ext K res w false v
  | .panic ch => ∃ v, ch = [{ v := v, recovered := false }] ∧ Left e ext K res w true v
  |_ => False := by
 unfold fin at h
 cases hex with
 |exit id => simp at h
 |pan v u hv =>
  simp only at h
  split at h
  ·rename_i r hr
   obtain ⟨e1, x', h4, h5⟩ := exit_sound (keep := false) (r := v.bare) hs.inv (.cons v u [] [] hv .nil) rfl hr
   exact ⟨u, rfl, _, x', h, rfl, e1, h4, by simpa using h5⟩
  ·cases h
 |normal =>
  simp only at h
  obtain ⟨avs, us, h1, h2, h3⟩ := res_sound hP hs h
  split at h1
  ·rename_i r exs hr' hexs
   obtain ⟨e1, x', h4, h5⟩ := exit_sound hs.inv h2 hr' hexs
   refine ⟨_, ?_, _, x', h1, rfl, e1, h4, h5⟩
   unfold results
   simp only [Sem.run_bind, Array.mapM_eq_mapM_toList, Sem.run_map]
   erw [h3]
   rfl
  ·cases h1
 |ret =>
  simp only at h
  obtain ⟨avs, us, h1, h2, h3⟩ := res_sound hP hs h
  split at h1
  ·rename_i r exs hr' hexs
   obtain ⟨e1, x', h4, h5⟩ := exit_sound hs.inv h2 hr' hexs
   refine ⟨_, ?_, _, x', h1, rfl, e1, h4, h5⟩
   unfold results
   simp only [Sem.run_bind, Array.mapM_eq_mapM_toList, Sem.run_map]
   erw [h3]
   rfl
  ·cases h1

inductive ModeOk (x : X) : AV → FrameMode → FrameMode → Prop
 |ret : ModeOk x (.dv (.val .nilIface)) .returning .returning
 |pan (a : AV) (v : Value) : Rep x a v → ModeOk x a (.panicking [{ v := v, recovered := false }]) (.panicking [{ v := v, recovered := true }])

theorem run_recover {P : Program} {o : Oper} (h : isRecover o = true) (ρ : Operand → Value) (w : World) : o.guard = none ∧ (execOp ρ o).run P w = .ok .recover w := by
 unfold isRecover at h
 split at h
 ·rename_i c ho hg
  refine ⟨hg, ?_⟩
  split at h
  ·rename_i hc ha
   have ha' : c.args = #[] := by cases hx : c.args; simp [hx] at ha; simp [ha]
   simp only [execOp, ho, resolve, hc, Sem.run_bind, Sem.run_pure, Result.andThen_ok, invoke, builtin, ha']
  ·cases h
 ·cases h

theorem wpS_recover {P : Program} {id : Nat} {ops : Array Oper} {o : Oper} {Q : Exit → Act → List Frame → World → Prop} {a : Act} {c₀ : Frame} {cs : List Frame} {w : World} (h0 : ops[0]? = some o) (hr : isRecover o = true)
  {v : Value} {u' : FrameMode} (hrec : recoverD (c₀ :: cs) = some (v, { c₀ with mode := u' } :: cs) ∨ recoverD (c₀ :: cs) = none ∧ v = .nilIface ∧ { c₀ with mode := u' } = c₀)
  (h : wpOps P ops (fun e a w => Q e a ({ c₀ with mode := u' } :: cs) w) (List.range' 1 (ops.size - 1)) (a.put o.dst v) w) : (Code.region id ops false).wpS P Q a (c₀ :: cs) w := by
 intro b k hb hro
 have hsz : 0 < ops.size := (Array.getElem?_eq_some_iff.1 h0).1
 have hrange : List.range ops.size = 0 :: List.range' 1 (ops.size - 1) := by
  rw [List.range_eq_range']
  obtain ⟨n, hn⟩ : ∃ n, ops.size = n + 1 := ⟨ops.size - 1, by omega⟩
  rw [hn, List.range'_succ]; rfl
 obtain ⟨hg, hrun⟩ := run_recover (P := P) hr a.eval w
 have hw : Region.wanted o (yielded ops a.tmps) = true := by simp [Region.wanted, hg]
 obtain ⟨e, a', w', hq, harr⟩ := wp_ops _ _ w h b k ({ c₀ with mode := u' } :: cs)
 refine ⟨e, a', _, w', hq, .of_steps (.head step_region (.one (step_lone_go ?_))) harr⟩
 rw [hrange]
 have hstep := stepG_op (P := P) (b := b) (k := k) (cs := c₀ :: cs) (w := w) (rest := List.range' 1 (ops.size - 1)) h0 hw
 have hfin : (b.at a (.inRegion ops (0 :: List.range' 1 (ops.size - 1)) :: k)).finish v = b.at (a.put o.dst v) (.inRegion ops (List.range' 1 (ops.size - 1)) :: k) := by
  rw [Frame.finish_at, h0]; rfl
 have hk : (b.at a (.inRegion ops (0 :: List.range' 1 (ops.size - 1)) :: k)).kind = .deferred := hb
 have htr := tryRecover_deferred hk (c₀ :: cs)
 rw [hstep, ← hfin]
 simp only [Frame.at] at htr ⊢
 rcases hrec with hrec | ⟨hrec, rfl, hc⟩
 ·simp [stepG.apply, hrun, htr, hrec]
 ·rw [hc]
  simp [stepG.apply, hrun, htr, hrec]

theorem clo_sound {P : Program} {Φ : Orc} (hΦ : OSound P Φ) (hmix : P.follows .mixedOrders = true) {f : FuncId} {fn : Func} (hf : P.funcs[f]? = some fn) {lv : Live} {n : Nat} {rv : AV} {args : List AV} {ext : List (List AV)} {K : Out → Option R}
  (h : denClo P Φ lv n fn rv args ext K = some res) {w : World} {x : X} {E : List Nat} {vs : List Value} (hI : Inv ⟨P, w, x, E, [], []⟩ x w (zipExt 1000 ext)) (hr : RepL x args vs) {u u' : FrameMode} (hu : ModeOk x rv u u') :
  CallsD P f ⟨vs⟩ u w fun en m w' => m = u' ∧ ∃ pan v, en = (if pan then .panicked [{ v, recovered := false }] else .returned v) ∧ Left ⟨P, w, x, E, [], []⟩ ext K res w' pan v := by
 unfold denClo at h
 split at h
 ·rename_i id ops b hb
  split at h
  ·rename_i o os hops
   split at h
   ·rename_i hc
    simp only [Bool.and_eq_true] at hc
    obtain ⟨hrec, hle⟩ := hc
    refine callsD_of_wpS hf hb ?_
    intro c₀ cs hm
    refine wpS_seq ?_
    have h0 : ops[0]? = some o := by rw [← Array.getElem?_toList, hops]; rfl
    have hval : ∃ v, (recoverD (c₀ :: cs) = some (v, { c₀ with mode := u' } :: cs) ∨ recoverD (c₀ :: cs) = none ∧ v = .nilIface ∧ { c₀ with mode := u' } = c₀) ∧ Rep x rv v := by
     cases hu with
     |ret => exact ⟨.nilIface, .inr ⟨by simp [recoverD, hm], rfl, by rw [← hm]⟩, rep_val x rfl⟩
     |pan a v hv => exact ⟨v, .inl (by simp [recoverD, hm]), hv⟩
    obtain ⟨v, hrv, hv⟩ := hval
    refine wpS_recover h0 hrec hrv ?_
    have hosz : ops.size - 1 = os.length := by rw [← Array.length_toList, hops]; simp
    rw [hosz]
    have hops' : ops.toList = o :: os := hops
    rw [St.force_eq, ← hops'] at h
    refine reg_sound (e := ⟨P, w, x, E, [], []⟩) hΦ [] (.inr fun _ => rfl) ops (k := fun s => s.force fun s => den P Φ lv n b (fin P fn false ext K) s) (kp := fun v s => fin P fn false ext K (.pan v) s) ?_ ?_ os 1 ?_ _ x w _ ?_ h
    ·intro s1 x1 w1 a1 h1 hs1
     rw [St.force_eq] at h1
     refine wpS_of_wp ?_
     refine den_sound (e := ⟨P, w, x, E, [], []⟩) hΦ (fun id ops K' Q hK s x w a hs hr => draw_sound hΦ hmix hK hs hr) lv (.inl rfl) n b _ _ ?_ s1 x1 w1 a1 hs1 h1
     intro ex En s2 x2 w2 a2 hk hs2 hex
     have := fin_sound (e := ⟨P, w, x, E, [], []⟩) rfl hk hs2 hex
     cases hex with
     |exit id => exact this.elim
     |pan v u hv => 
      obtain ⟨z, hz, hl⟩ := this
      refine ⟨hs2.defers, u', rfl, rfl, true, z, ?_, hl⟩
      rw [hz]; rfl
     |normal =>
      obtain ⟨z, hz, hl⟩ := this
      exact ⟨hs2.defers, u', rfl, z, hz, rfl, false, z, rfl, hl⟩
     |ret =>
      obtain ⟨z, hz, hl⟩ := this
      exact ⟨hs2.defers, u', rfl, z, hz, rfl, false, z, rfl, hl⟩
    ·intro v1 s1 x1 w1 a1 u1 h1 hs1 hv1
     have := fin_sound (e := ⟨P, w, x, E, [], []⟩) rfl h1 hs1 (.pan v1 u1 hv1)
     obtain ⟨z, hz, hl⟩ := this
     refine ⟨hs1.defers, u', rfl, rfl, true, z, ?_, hl⟩
     rw [hz]; rfl
    ·intro j
     rw [← Array.getElem?_toList, hops, Nat.add_comm]; simp
    ·refine ⟨hI, ?_, by cases o.dst <;> rfl⟩
     refine RepL.setT ?_ o.dst hv
     have h1 := hr.length
     have := hr.append (RepL.junks x (fn.ntmps - args.length) undef)
     simpa [h1] using this
   ·cases h
  ·cases h
 ·cases h

theorem deferOf_spec {c : Code} {o1 : Oper} {f : Operand} (h : deferOf c = some (o1, f)) : ∃ id o2 cl, c = .region id #[o1, o2] false ∧ o1.guard = none ∧ o2.guard = none ∧ o2.dst = none ∧ o2.op = .defer cl ∧ cl.callee = .value f ∧ cl.args = #[] := by
 unfold deferOf at h
 split at h
 ·rename_i id ops
  split at h
  ·rename_i p1 p2 hl
   split at h
   ·rename_i cl h1 h2 h3 h4
    split at h
    ·rename_i g hc ha
     cases h
     have ha' : cl.args = #[] := by cases hx : cl.args; simp [hx] at ha; simp [ha]
     exact ⟨id, p2, cl, by rw [show ops = #[o1, p2] from by apply Array.ext'; rw [hl]], h1, h2, h3, h4, hc, ha'⟩
    ·cases h
   ·cases h
  ·cases h
 ·cases h

theorem ahead_sound {e : Env} (heL : e.L = []) {Φ : Orc} (hΦ : OSound e.P Φ) (hmix : e.P.follows .mixedOrders = true) {lv : Live} {n : Nat} {kD : FuncId → List AV → Code → St → Option R} {K : Ex → St → Option R} {Q : Exit → Act → World → Prop} (hK : KOk e K res Q) (hD0 : e.D = [])
  (hkD : ∀ g caps b s x w a vs, kD g caps b s = some res → Inv e x w s.m → RepL x s.t a.tmps.toList → RepL x caps vs → a.defers = [{ target := .fn (.func g) ⟨vs⟩, args := #[] }] → b.wp e.P Q a w) :
  ∀ (c : Code) (s : St) (x : X) (w : World) (a : Act), StOk e x w s a → ahead e.P Φ lv n kD K c s = some res → c.wp e.P Q a w := by
 intro c
 induction c with
 |seq c d ihc ihd =>
  intro s x w a hs h
  simp only [ahead] at h
  split at h
  ·rename_i o1 f hdo
   obtain ⟨id, o2, cl, rfl, g1, g2, g3, g4, g5, g6⟩ := deferOf_spec hdo
   refine Go.wp_seq (wp_region ?_)
   show wpOps e.P #[o1, o2] _ [0, 1] a w
   rw [wpOps_cons]
   simp only [wpOp, List.getElem?_toArray, List.getElem?_cons_zero]
   rw [if_pos (by simp [Region.wanted, g1])]
   refine .inl (step_sound hΦ hs h ?_ ?_)
   ·intro s' x' w' a' h1 hs'
    rw [wpOps_cons]
    simp only [wpOp, List.getElem?_toArray, List.getElem?_cons_succ, List.getElem?_cons_zero]
    rw [if_pos (by simp [Region.wanted, g2])]
    split at h1
    ·rename_i g caps hg
     have hrf := evT_rep hs'.tmps hg
     generalize hz : a'.eval f = z at hrf
     cases hrf with
     |fn _ _ cv hcv =>
     left
     unfold Oper.wp
     have hrun : (execOp a'.eval o2).run e.P w' = .ok (.defer { target := .fn (.func g) ⟨cv⟩, args := #[] }) w' := by
      simp [execOp, g4, resolve, g5, g6, hz, Deferred.ofValue]
     rw [hrun, Oper.upon_defer, g3]
     show d.wp e.P Q _ w'
     refine hkD g caps d s' x' w' _ cv h1 hs'.inv hs'.tmps hcv ?_
     show _ :: a'.defers = _
     rw [hs'.defers, hD0]
    ·cases h1
   ·intro v s' x' w' a' u h1 hs' hr
    exact hK _ _ s' x' w' a' h1 hs' (.pan v u hr)
  ·refine Go.wp_seq (den_sound hΦ (fun id ops K' Q hK s x w a hs hr => draw_sound hΦ hmix hK hs hr) lv (.inl heL) n c _ _ ?_ s x w a hs h)
   intro ex E s' x' w' a' hk hs' hex
   cases hex with
   |normal => exact ihd s' x' w' a' hs' hk
   |exit id => exact hK _ _ s' x' w' a' hk hs' (.exit id)
   |ret => exact hK _ _ s' x' w' a' hk hs' .ret
   |pan v u hr => exact hK _ _ s' x' w' a' hk hs' (.pan v u hr)
 |_ => intro s x w a hs h; simp [ahead] at h

theorem run_invoke {P : Program} {g : FuncId} {gn : Func} (hg : P.funcs[g]? = some gn) (hb : gn.body.isSome = true) (hn : gn.name ≠ "runtime.NumGoroutine") (vs : List Value) (w : World) : (invoke (.fn (.func g) ⟨vs⟩) #[]).run P w = .ok (.enter g ⟨vs⟩) w := by
 have hb' : gn.body.isNone = false := by cases hbb : gn.body <;> simp [hbb] at hb ⊢
 simp only [invoke, callFunc, Sem.run_bind, Result.andThen_ok, run_program, hg]
 rw [if_neg (by simpa using hn), if_neg (by simp [hb'])]
 simp only [Sem.run_pure]
 congr 2
 apply Array.ext'
 simp

theorem leaveU_sound {P : Program} {Φ : Orc} (hΦ : OSound P Φ) (hmix : P.follows .mixedOrders = true) {e : Env} (hP : e.P = P) {fn g : Func} {gid : FuncId} (hg : P.funcs[gid]? = some g) (hgb : g.body.isSome = true) (hgn : g.name ≠ "runtime.NumGoroutine") {lvC : Live} {n : Nat} {caps : List AV} {K : Out → Option R}
  {rv : List Nat → AV} {s : St} {x : X} {w : World} {tmps : Array Value} {vs : List Value} {u u' : FrameMode} (h : leaveU P Φ lvC n fn g gid caps K rv s = some res) (hI : Inv e x w s.m) (hT : RepL x s.t tmps.toList) (hcaps : RepL x caps vs)
  (hu : ∀ ks, ModeOk (x.callee ks) (rv ks) u u') (hset : settle u' = .returning) (hne : u ≠ .run) {Rr : Ending → World → Prop}
  (hR : ∀ w' v out x', K out = some res → out.pan = false → out.ext = [] → Inv e x' w' (zipExt 1000 []) → (∀ x'' : X, x''.M = x'.M → Rep x'' out.res v) → Rr (.returned v) w') :
  Leaves P fn tmps Rr [{ target := .fn (.func gid) ⟨vs⟩, args := #[] }] u w := by
 subst hP
 unfold leaveU at h
 simp only [forceN_eq] at h
 generalize hks : dedup (AV.slots caps) = ks at h
 have hnd : ks.Nodup := by rw [← hks]; exact dedup_nodup _
 split at h
 ·rename_i ext hext
  refine leaves_cons hne (run_invoke hg hgb hgn vs w) ?_
  refine (clo_sound hΦ hmix hg h (hI.callee hnd hext []) (by simpa using hcaps.pass (ks := ks)) (hu ks)).mono ?_
  rintro en m w' ⟨rfl, pan, v, rfl, out, xc, hk, hpan, hlen, hc, hrep⟩
  simp only [hpan] at hk
  cases pan with
  |true => simp at hk
  |false =>
   simp only at hk
   rw [St.force_eq] at hk
   obtain ⟨x', ha⟩ := after_call hI hnd hext hlen hc hrep none
   have hs' : StOk { e with D := [] } x' w' (s.apply none (callEff ks none out)) { tmps := tmps, defers := [] } := by
    have hs0 : StOk { e with D := [] } x w s { tmps := tmps, defers := [] } := ⟨hI.setD [], hT, rfl⟩
    have ha' : After { e with D := [] } x x' w' s.m v (callEff ks none out) := by
     revert ha
     unfold After
     split
     ·rintro ⟨p1, p2, p3⟩; exact ⟨p1, p2.setD [], p3⟩
     ·rintro ⟨p1, p2, p3⟩; exact ⟨p1, p2.setD [], p3⟩
    exact hs0.apply ha' none
   obtain ⟨avs, us, h1, h2, h3⟩ := res_sound (e := { e with D := [] }) rfl hs' hk
   split at h1
   ·rename_i r hr'
    split at h1
    ·rename_i hlo
     obtain ⟨x2, h4, h5⟩ := canon_sound (m' := zipExt 1000 []) hs'.inv h2 hr' (fun k cs hk => by simp [zipExt, lookup] at hk)
     simp only [Bool.false_eq_true, if_false]
     rw [hset]
     refine ⟨_, ?_, hR w' _ ⟨false, r, []⟩ x2 h1 rfl rfl (h4.setD e.D) (fun x'' hM => h5.loose hM hlo)⟩
     unfold results
     simp only [Sem.run_bind, Array.mapM_eq_mapM_toList, Sem.run_map]
     erw [h3]
     rfl
    ·cases h1
   ·cases h1
 ·cases h

theorem fnD_sound {P : Program} {Φ : Orc} (hΦ : OSound P Φ) (hmix : P.follows .mixedOrders = true) {f : FuncId} {fn : Func} (hf : P.funcs[f]? = some fn) (hname : fn.name ≠ "runtime.NumGoroutine") {gid : FuncId} {g : Func} (hg : P.funcs[gid]? = some g)
  (hgb : g.body.isSome = true) (hgn : g.name ≠ "runtime.NumGoroutine") {lv lvC : Live} {n : Nat} {args : List AV} {K : Out → Option R} {out : Out} (hKo : ∀ o, K o = some res → o = out) (h : denFnD P Φ lv n fn g gid lvC args K = some res) : Contract P f args [] out := by
 unfold denFnD at h
 split at h
 ·cases h
 ·rename_i c hc
  split at h
  ·rename_i hle
   refine .inl ⟨⟨fn, hf, by simp [hc], hname⟩, ?_⟩
   simp only [Bool.and_eq_true, Bool.not_eq_true'] at hle
   intro w x E L vs htk hI hr
   obtain ⟨rfl, _⟩ := htk (by rw [hle.2]; rfl)
   replace hle := hle.1
   refine calls_of_wp_defers hf hc ?_
   refine ahead_sound (e := ⟨P, w, x, E, [], []⟩) rfl hΦ hmix (K := fin P fn false [] K) ?_ rfl ?_ c _ x w _ ⟨hI, ?_, rfl⟩ h
   ·intro ex En s1 x1 w1 a1 hk hs1 hex
    have := fin_sound (e := ⟨P, w, x, E, [], []⟩) rfl hk hs1 hex
    have hd : a1.defers = [] := hs1.defers
    cases hex with
    |exit id => exact this.elim
    |pan v u hv =>
     obtain ⟨z, hz, o', x', h1, h2, h3, h4, h5⟩ := this
     obtain rfl := hKo _ h1
     show Leaves _ _ _ _ a1.defers _ _
     rw [hd, hz]
     exact ⟨x', z, h3, by rw [h2]; rfl, h4, h5⟩
    |normal =>
     obtain ⟨z, hz, o', x', h1, h2, h3, h4, h5⟩ := this
     obtain rfl := hKo _ h1
     show Leaves _ _ _ _ a1.defers _ _
     rw [hd]
     exact ⟨z, hz, x', z, h3, by rw [h2]; rfl, h4, h5⟩
    |ret =>
     obtain ⟨z, hz, o', x', h1, h2, h3, h4, h5⟩ := this
     obtain rfl := hKo _ h1
     show Leaves _ _ _ _ a1.defers _ _
     rw [hd]
     exact ⟨z, hz, x', z, h3, by rw [h2]; rfl, h4, h5⟩
   ·intro g' caps b s1 x1 w1 a1 cv hk hI1 hT1 hcaps hdef
    simp only [forceN_eq, AV.forceL_eq, St.force_eq] at hk
    generalize hks : dedup (AV.slots s1.t) = ks at hk
    have hnd : ks.Nodup := by rw [← hks]; exact dedup_nodup _
    split at hk
    ·rename_i ext hcond hext
     simp only [Bool.and_eq_true, beq_eq] at hcond
     obtain ⟨rfl, hpl⟩ := hcond
     let D : List Deferred := [{ target := .fn (.func g') ⟨cv⟩, args := #[] }]
     have hcal := hI1.callee hnd hext D
     refine den_sound (e := ⟨P, w1, x1.callee ks, ks.filterMap x1.loc, D, []⟩) hΦ (fun id ops K' Q hK s x w a hs hr => draw_sound hΦ hmix hK hs hr) lv (.inl rfl) n b _ _ ?_ _ (x1.callee ks) w1 a1 ⟨hcal, hT1.pass, hdef⟩ hk
     have hcp : RepL (x1.callee ks) (AV.passL ks caps) cv := hcaps.pass
     intro ex En s2 x2 w2 a2 hk2 hs2 hex
     have hcp2 : RepL x2 (AV.passL ks caps) cv := hcp.pls (fun k hk => hs2.inv.ext k hk) hpl
     have hd2 : a2.defers = D := hs2.defers
     have hend : ∀ w' v out' x', K out' = some res → out'.pan = false → out'.ext = [] → Inv ⟨P, w1, x1.callee ks, ks.filterMap x1.loc, D, []⟩ x' w' (zipExt 1000 []) → (∀ x'' : X, x''.M = x'.M → Rep x'' out'.res v) →
       ∃ x' v', out.ext.length = ([] : List (List AV)).length ∧ (Ending.returned v = if out.pan then .panicked [{ v := v', recovered := false }] else .returned v') ∧ Inv ⟨P, w, x, E, [], []⟩ x' w' (zipExt 1000 out.ext) ∧ Rep x' out.res v' := by
      intro w' v out' x' ho hp he hi hrep
      obtain rfl := hKo _ ho
      refine ⟨{ M := x'.M, loc := x1.loc, tk := fun _ => none, cap := x1.cap, M0 := x1.M0 }, v, by rw [he], by rw [hp]; rfl, ?_, hrep _ rfl⟩
      rw [he]; exact hI1.outer hext hi
     unfold leaveE at hk2
     cases hex with
     |exit id => simp at hk2
     |pan v u hv =>
      simp only at hk2
      show Leaves _ _ _ _ a2.defers _ _
      rw [hd2]
      exact leaveU_sound hΦ hmix (e := ⟨P, w1, x1.callee ks, ks.filterMap x1.loc, D, []⟩) rfl hg hgb hgn hk2 hs2.inv hs2.tmps hcp2 (fun ks' => .pan _ u hv.pass) rfl (by simp) hend
     |normal =>
      simp only at hk2
      show Leaves _ _ _ _ a2.defers _ _
      rw [hd2]
      exact leaveU_sound hΦ hmix (e := ⟨P, w1, x1.callee ks, ks.filterMap x1.loc, D, []⟩) rfl hg hgb hgn hk2 hs2.inv hs2.tmps hcp2 (fun ks' => .ret) rfl (by simp) hend
     |ret =>
      simp only at hk2
      show Leaves _ _ _ _ a2.defers _ _
      rw [hd2]
      exact leaveU_sound hΦ hmix (e := ⟨P, w1, x1.callee ks, ks.filterMap x1.loc, D, []⟩) rfl hg hgb hgn hk2 hs2.inv hs2.tmps hcp2 (fun ks' => .ret) rfl (by simp) hend
    ·cases hk
   ·have h1 := hr.length
    have := hr.append (RepL.junks x (fn.ntmps - args.length) undef)
    simpa [h1] using this
  ·cases h
theorem autoD_ok {P : Program} {Φ : Orc} (hΦ : OSound P Φ) (hmix : P.follows .mixedOrders = true) {f : FuncId} {fn : Func} (hf : P.funcs[f]? = some fn) (hname : fn.name ≠ "runtime.NumGoroutine") {gid : FuncId} {g : Func} (hg : P.funcs[gid]? = some g)
  (hgb : g.body.isSome = true) (hgn : g.name ≠ "runtime.NumGoroutine") {lv lvC : Live} {n : Nat} {args : List AV} {o : OSh} {y : o.ty} (h : denFnD P Φ lv n fn g gid lvC args o.chk = some y) : Contract P f args [] (o.enc y) :=
 fnD_sound hΦ hmix hf hname hg hgb hgn (fun out ho => o.chk_enc out y ho) h
end Go.Den
namespace Go.Den
structure Memo where
 und : TypeId → Option TypeDesc
 kds : TypeId → Option (List Kd)
 zero : TypeId → Option (List AV)
 plain : TypeId → Option (List Kd)
 guard : TypeId → Bool
 size : TypeId → Option Nat
 agg : TypeId → Option Bool
 sized : TypeId → Bool
 info : TypeId → Option TypeInfo
def Memo.std (P : Program) : Memo := ⟨P.underlying, kdsOf P 9, zeroOf P, plainKds P 9, P.eqGuardType P.depth, size? P, agg? P, Go.Den.sized P, P.info?⟩
end Go.Den
namespace Go.Den.DM

noncomputable section
variable (M : Memo) (Φ : Orc)
def vtOk (t : TypeId) : Bool := match M.info t with | some i => (match i.desc with | .named _ _ => i.str == "show.printer" | _ => false) | none => false
def virOk (t : TypeId) (cs : List AV) : Bool := match virgin cs with | true => vtOk M t | false => true
def u8Ok (t : TypeId) : Bool := match M.info t with | some i => (match i.desc with | .int .u8 => i.str == "uint8" | _ => false) | none => false
def u8El (t : TypeId) (ks : List Kd) : Bool := match u8k ks with | true => u8Ok M t | false => true
def ofConst (t : TypeId) : Value → Option AV
 | .bool b => some (.B b)
 | .int k n => some (.I k n)
 | .string s => some (.S s)
 | .pointer none => some (.dv (.val (.pointer none)))
 | .nilFunc => some (.dv (.val .nilFunc))
 | .nilIface => some (.dv (.val .nilIface))
 | .slice none 0 0 =>
  match M.und t with
  |some (.slice e) => match  M.kds e with | some ks => some (.sl true ks [] .ex) | none => none
  |_ => none
 |_ => none
def evT (t : List AV) (ty : TypeId) : Operand → Option AV
 | .tmp i => t[i]?
 | .const v => ofConst M ty v
 | .func f => some (.fn f [])
 | .global _ => none

def field? (t : TypeId) (i : Nat) : Option (Nat × TypeId) :=
 match M.und t with
 |some (.struct fs) => match fs[i]? with | some f => some (f.offset, f.type) | none => none
 |_ => none
def place? (t : TypeId) (i : Nat) : Option (Nat × Nat × TypeId) :=
 match M.und t with
 |some (.struct fs) => match fs[i]? with | some f => (match M.size f.type with | some n => some (f.offset, n, f.type) | none => none) | none => none
 |some (.array _ e) => match M.size e with | some n => some (i * n, n, e) | none => none
 |_ => none

def parts (t : TypeId) (tm : List AV) : List (Nat × Operand) → List AV → Option (List AV)
 |[], cs => some cs
 |(i, x) :: rest, cs =>
  match place? M t i with
  |some (off, n, ty) => match evT M tm ty x with
   |some v => match v.cells with
    |some new => if Nat.beq new.length n && Nat.ble (off + n) cs.length then parts t tm rest (splice cs off new) else none
    |none => none
   |none => none
  |none => none

def rowsOf (e : TypeId) (ks : List Kd) (tm : List AV) : List (Nat × Operand) → Rows → Option Rows
 |[], rs => some rs
 |(i, x) :: rest, rs =>
  match evT M tm e x with
  |some v => match v.row with
   |some r => if Row.ofKds ks r && Nat.blt i rs.length then rowsOf e ks tm rest (rs.set i r) else none
   |none => none
  |none => none

def binE (op : BinOp) (t : TypeId) (a b : AV) : Option AV :=
 match a, b with
 | .dv (.val (.int k x)), .dv (.val (.int j y)) => if k = j then arith op k x y else none
 | .dv (.val (.string x)), .dv (.val (.string y)) => strOp op x y
 | .dv (.val (.bool x)), .dv (.val (.bool y)) =>
  match M.und t with
  |some .bool => nilOp op (x == y)
  |_ => none
 | .agg x, .agg y =>
  match M.und t, M.plain t with
  |some (.struct _), some ks => if M.guard t then none else match eqK ks x y with | some r => nilOp op r | none => none
  |_, _ => none
 | .sl n _ _ _, .sl true _ [] .ex => match M.und t with | some (.slice _) => nilOp op n | _ => none
 | .ms .., .sl true _ [] .ex => match M.und t with | some (.slice _) => nilOp op false | _ => none
 | .pl _ off, .dv (.val (.pointer none)) => match M.und t, Nat.beq off mapOff with | some (.pointer _), false => nilOp op false | _, _ => none
 | .pv _ _ _, .dv (.val (.pointer none)) => match M.und t with | some (.pointer _) => nilOp op false | _ => none
 | .fn _ _, .dv (.val .nilFunc) => match M.und t with | some (.func _ _ _) => nilOp op false | _ => none
 | .ifc _ _, .dv (.val .nilIface) => match M.und t with | some (.interface _) => nilOp op false | _ => none
 | .dv (.val .nilIface), .dv (.val .nilIface) => match M.und t with | some (.interface ms) => (match ms.toList with | [] => nilOp op true | _ => none) | _ => none
 | .dv (.val .nilFunc), .dv (.val .nilFunc) => match M.und t with | some (.func _ _ _) => nilOp op true | _ => none
 | .dv (.val (.pointer none)), .dv (.val (.pointer none)) => match M.und t with | some (.pointer _) => nilOp op true | _ => none
 | .pl k off, .pl k' off' => match M.und t with
  |some (.pointer el) => match M.size el, Nat.beq k k' && Nat.beq off off' && !Nat.beq off mapOff with
   |some _, true => nilOp op true
   |_, _ => none
  |_ => none
 |_, _ => none
def evs (tm : List AV) : List TypeId → List Operand → Option (List AV)
 |_, [] => some []
 |[], x :: xs => match evT M tm 0 x with
  |some v => match evs tm [] xs with | some l => some (v :: l) | none => none
  |none => none
 |t :: ts, x :: xs => match evT M tm t x with
  |some v => match evs tm ts xs with | some l => some (v :: l) | none => none
  |none => none

def elemOk (t : TypeId) (ks : List Kd) : Bool :=
 match M.und t with
 |some (.slice e) => match  M.kds e, M.size e with | some ke, some n => Kd.sameL ks ke && Nat.beq n ke.length | _, _ => false
 |_ => false

def clearE {R : Type} (m : Mem) (ts : List TypeId) (j : Nat) (ks : List Kd) (off n : Nat) (k : Eff → Option R) : Option R :=
 match ts with
 |[t] => match M.und t with
  |some (.slice e) => match M.zero e, lookupA m j with
   |some z, some (ks2, rows) => match AV.flats z with
    |some zr => match Kd.sameL ks ks2 && Row.ofKds ks zr with
     |true => if off + n ≤ rows.length then k (.full (.tup []) [] [] [(j, [.arr ks (rows.take off ++ List.replicate n zr ++ rows.drop (off + n))])]) else none
     |false => none
    |none => none
   |_, _ => none
  |_ => none
 |_ => none
def copyE {R : Type} (m : Mem) (ts : List TypeId) (j : Nat) (ks : List Kd) (off n : Nat) (ks2 : List Kd) (rows2 : Rows) (k : Eff → Option R) : Option R :=
 match ts with
 |[t, _] => match elemOk M t ks && Kd.sameL ks ks2, lookupA m j with
  |true, some (ks3, rows) => match Kd.sameL ks ks3 with
   |true => if off + n ≤ rows.length then k (.full (.I .i64 (min rows2.length n : Nat)) [] [] [(j, [.arr ks (rows.take off ++ rows2.take (min rows2.length n) ++ rows.drop (off + min rows2.length n))])]) else none
   |false => none
  |_, _ => none
 |_ => none
def builtinE {R : Type} (m : Mem) (d : Option Tmp) (b : Builtin) (ts : List TypeId) (args : List AV) (k : Eff → Option R) : Option R :=
 match b, args with
 | .len, [.dv (.val (.string s))] => match ts with
  |t :: _ => match M.und t with
   |some .string => k (.pure (.I .i64 s.size))
   |_ => none
  |[] => none
 | .len, [.sl _ _ rows _] => match ts with
  |t :: _ => match M.und t with
   |some (.slice _) => k (.pure (.I .i64 rows.length))
   |_ => none
  |[] => none
 | .len, [.ms _ _ _ n _] => match ts with
  |t :: _ => match M.und t with
   |some (.slice _) => k (.pure (.I .i64 n))
   |_ => none
  |[] => none
 | .min, [.dv (.val (.int j x)), .dv (.val (.int l y))] => if j = l then k (.pure (.I j (if y < x then y else x))) else none
 | .max, [.dv (.val (.int j x)), .dv (.val (.int l y))] => if j = l then k (.pure (.I j (if y > x then y else x))) else none
 | .append, [.sl n ks rows r, .sl _ ks2 rows2 _] =>
  match d, ts with
  |some d, [t, t2] =>
   match M.und t with
   |some (.slice e) => match M.info e,  M.kds e, appendRight d r with
    |some i, some ke, some strike =>
     match i.zero with
     |some z =>
      if Nat.beq t t2 && Kd.sameL ks ke && Kd.sameL ks2 ke && Nat.beq i.size ke.length && Nat.beq z.cells.size i.size && Nat.blt 0 i.bytes && u8El M e ks then
       if (rows.length + rows2.length) * i.bytes ≤ 140737488355328 then
        appTokK d r rows rows2 fun r' => k (.full (.sl (n && rows2.isEmpty) ks (rows ++ rows2) r') [] strike [])
       else none
      else none
     |none => none
    |_, _, _ => none
   |_ => none
  |_, _ => none
 | .append, [.ms j ks off n _, .sl _ ks2 rows2 _] =>
  match d, ts with
  |some d, [t, t2] =>
   match M.und t with
   |some (.slice e) => match M.info e,  M.kds e, lookupA m j with
    |some i, some ke, some (ks3, []) =>
     match i.zero with
     |some z =>
      if Nat.beq t t2 && Kd.sameL ks ke && Kd.sameL ks2 ke && Kd.sameL ks3 ke && Nat.beq i.size ke.length && Nat.beq z.cells.size i.size && Nat.blt 0 i.bytes && Nat.beq off 0 && Nat.beq n 0 && Nat.blt j 1000 && Nat.blt d 1000 then
       if rows2.length * i.bytes ≤ 140737488355328 then
        k (.full (.ms d ks 0 rows2.length rows2.length) [j, d] [] [(d, [.arr ks rows2])])
       else none
      else none
     |none => none
    |_, _, _ => none
   |_ => none
  |_, _ => none
 | .append, [.sl n ks rows r, .dv (.val (.string s))] =>
  match d, ts with
  |some d, [t, t2] =>
   match M.und t, M.und t2 with
   |some (.slice e), some .string => match M.info e,  M.kds e, M.und e, appendRight d r with
    |some i, some ke, some (.int .u8), some strike =>
     match i.zero with
     |some z =>
      if Kd.sameL ks ke && Kd.sameL ke [.i .u8] && Nat.beq i.size 1 && Nat.beq z.cells.size i.size && Nat.blt 0 i.bytes && u8El M e ks then
       if (rows.length + s.size) * i.bytes ≤ 140737488355328 then
        k (.full (.sl (n && s.size == 0) ks (rows ++ byteRows s) (appTok d r rows (byteRows s))) [] strike [])
       else none
      else none
     |none => none
    |_, _, _, _ => none
   |_, _ => none
  |_, _ => none
 | .clear, [.ms j ks off n _] => clearE M m ts j ks off n k
 | .copy, [.ms j ks off n _, .sl _ ks2 rows2 _] => copyE M m ts j ks off n ks2 rows2 k
 |_, _ => none

def evO (tm : List AV) : Option Operand → Option (Option AV)
 |none => some none
 |some x => match evT M tm 0 x with | some v => some (some v) | none => none

def loadE {R : Type} (m : Mem) (t : TypeId) (a : AV) (k : Eff → Option R) : Option R :=
 match M.agg t, M.size t with
 |some true, some n =>
  match a with
  | .pl j off => match lookupC m j with
   |some cs => if Nat.ble (off + n) cs.length && !Nat.beq off mapOff then k (.pure (.agg ((cs.drop off).take n))) else none
   |none => none
  | .pv ks row off => if Nat.ble (pvOff off + n) ks.length then k (.pure (.agg (oldL off (Row.cells row ((ks.drop (pvOff off)).take n) (pvOff off))))) else none
  | .pa j ks i q => match lookupA m j with
   |some (ks2, rows) => if Kd.sameL ks ks2 && Nat.ble (q + n) ks.length then if i < rows.length then k (.pure (.agg (Row.cells (rows.getD i []) ((ks.drop q).take n) q))) else none else none
   |none => none
  |_ => none
 |some false, some _ =>
  match a with
  | .pl j off => match lookupC m j with
   |some cs => match cs[off]?, Nat.beq off mapOff with
    |some v, false => k (.pure v)
    |_, _ => none
   |none => none
  | .pv ks row off => match ks[pvOff off]? with
   |some kd => k (.pure (oldA off (Row.cell kd row (pvOff off))))
   |none => none
  | .pa j ks i q => match lookupA m j, ks[q]? with
   |some (ks2, rows), some kd => if Kd.sameL ks ks2 then if i < rows.length then k (.pure (Row.cell kd (rows.getD i []) q)) else none else none
   |_, _ => none
  |_ => none
 |_, _ => none

def storeE {R : Type} (m : Mem) (t : TypeId) (a v : AV) (k : Eff → Option R) : Option R :=
 match M.size t, a, v.cells with
 |some n, .pl j off, some new =>
  match lookupC m j with
  |some cs => if Nat.beq new.length n && Nat.ble (off + n) cs.length && AV.areCells new && virLe (splice cs off new) cs && !Nat.beq off mapOff then k (.full .junk [] [] [(j, splice cs off new)]) else none
  |none => none
 |some n, .pa j ks i q, some new =>
  match lookupA m j, AV.flats new with
  |some (ks2, rows), some fl =>
   if Kd.sameL ks ks2 && Nat.beq new.length n && Nat.ble (q + n) ks.length && Row.ofKds ((ks.drop q).take n) fl then
    if i < rows.length then k (.full .junk [] [] [(j, [.arr ks (rows.set i (spliceD (rows.getD i []) q fl))])]) else none
   else none
  |_, _ => none
 |_, _, _ => none

def keyOk (t : TypeId) (ks : List Kd) : Bool :=
 match M.und t, ks with
 |some .bool, .b :: _ => true
 |some (.int k), .i j :: _ => decide (k = j)
 |some .string, .s :: _ => true
 |_, _ => false
def zAgg (t : TypeId) : Option Bool :=
 match M.info t with
 |some i => match i.zero with
  |some (.agg _) => some true
  |some _ => some false
  |none => none
 |none => none
def newMapE {R : Type} (d : Option Tmp) (t : TypeId) (k : Eff → Option R) : Option R :=
 match d, M.und t with
 |some d, some (.map kt et) => match  M.kds kt,  M.kds et, zAgg M et with
  |some ks, some vs, some ag => if flatKds (ks ++ vs) && Nat.blt d 1000 then k (.full (.pl d mapOff) [d] [] [(d, [mpTag ag, .arr (ks ++ vs) []])]) else none
  |_, _, _ => none
 |_, _ => none
def lookE {R : Type} (m : Mem) (t : TypeId) (a x : AV) (ok : Bool) (k : Eff → Option R) : Option R :=
 match M.und t, a, x with
 |some (.map kt et), .pl j off, .dv key => match lookupM m j, M.zero et, zAgg M et, Nat.beq off mapOff with
  |some (ag, ks, rows), some z, some ag', true => match AV.flats z with
   |some zr => if keyOk M kt ks && (ag == ag') && Row.ofKds ks (key :: zr) then match entryAV ag ks (mget rows key (key :: zr)) with
     |some v => k (.pure (match ok with | true => .tup [v, .B (mhas rows key)] | false => v))
     |none => none
    else none
   |none => none
  |_, _, _, _ => none
 |_, _, _ => none
def putE {R : Type} (m : Mem) (t : TypeId) (a x v : AV) (k : Eff → Option R) : Option R :=
 match M.und t, a, x, v.cells with
 |some (.map kt _), .pl j off, .dv key, some new => match lookupM m j, AV.flats new, Nat.beq off mapOff with
  |some (ag, ks, rows), some fl, true =>
   if keyOk M kt ks && (ag == v.isAgg) && Row.ofKds ks (key :: fl) then k (.full .junk [] [] [(j, [mpTag ag, .arr ks (mput rows key (key :: fl))])]) else none
  |_, _, _ => none
 |_, _, _, _ => none

def opE {R : Type} (tm : List AV) (m : Mem) (o : Oper) (k : Eff → Option R) (kp : Eff → Option R) : Option R :=
 match o.op with
 | .move x => match evT M tm o.type x with | some v => k (.pure v) | none => none
 | .assign x => match evT M tm o.type x with | some v => k (.pure v) | none => none
 | .pick c a b =>
  match evT M tm 0 c with
  |some (.dv (.val (.bool true))) => match evT M tm o.type a with | some v => k (.pure v) | none => none
  |some (.dv (.val (.bool false))) => match evT M tm o.type b with | some v => k (.pure v) | none => none
  |_ => none
 | .alloc e =>
  match o.dst, M.zero e with
  |some d, some cs => if Nat.blt d 1000 && virOk M e cs then k (.full (.pl d 0) [d] [] [(d, cs)]) else none
  |_, _ => none
 | .box e x =>
  match o.dst, evT M tm e x with
  |some d, some v => match v.cells with
   |some cs => if Nat.blt d 1000 && virOk M e (AV.scrubL [d] [] cs) then k (.full (.pl d 0) [d] [] [(d, AV.scrubL [d] [] cs)]) else none
   |none => none
  |_, _ => none
 | .build t ps =>
  match M.zero t, M.sized t with
  |some cs, true => match parts M t tm ps.toList cs with
   |some cs => k (.pure (.agg cs))
   |none => none
  |_, _ => none
 | .buildSlice t n ps =>
  match M.und t with
  |some (.slice e) => match  M.kds e, M.zero e, M.size e with
   |some ks, some z, some se => match AV.flats z with
    |some zr => match rowsOf M e ks tm ps.toList (List.replicate n zr) with
     |some rows => if Nat.beq se ks.length && Row.ofKds ks zr && Nat.ble (n * se) 16777216 then
       match o.dst with
       |some d => match mem d Φ.hs && Nat.blt d 1000 && Nat.ble n 16777216 with
        |true => k (.full (.ms d ks 0 n n) [d] [] [(d, [.arr ks rows])])
        |false => match mem (2000000 + d) Φ.hs && !u8k ks && Nat.ble n 16777216 with
         |true => k (.full (.sl false ks rows (.tok d)) [] [d] [])
         |false => k (.pure (.sl false ks rows .ex))
       |none => k (.pure (.sl false ks rows .ex))
      else none
     |none => none
    |none => none
   |_, _, _ => none
  |_ => none
 | .load t a => match evT M tm 0 a with | some v => loadE M m t v k | none => none
 | .store t a x => match evT M tm 0 a, evT M tm t x with | some v, some x => storeE M m t v x k | _, _ => none
 | .makeMap t none => newMapE M o.dst t k
 | .lookup t a x ok => match M.und t with
  |some (.map kt _) => match evT M tm t a, evT M tm kt x with | some a, some x => lookE M m t a x ok k | _, _ => none
  |_ => none
 | .mapUpdate t a x v => match M.und t with
  |some (.map kt et) => match evT M tm t a, evT M tm kt x, evT M tm et v with | some a, some x, some v => putE M m t a x v k | _, _, _ => none
  |_ => none
 | .nilCheck x =>
  match evT M tm 0 x with
  |some (.pl j off) => match Nat.beq off mapOff with | false => k (.pure (.pl j off)) | true => none
  |some (.pv ks row off) => k (.pure (.pv ks row off))
  |some (.pa j ks i q) => k (.pure (.pa j ks i q))
  |some (.fn f caps) => k (.pure (.fn f caps))
  |_ => none
 | .binOp op t x y u =>
  match op with
  | .quo => match evT M tm t x, evT M tm u y with
   |some (.dv (.val (.int j x))), some (.dv (.val (.int l y))) => if j = l then if y = 0 then none else k (.pure (.I j (j.wrap (x.tdiv y)))) else none
   |_, _ => none
  | .rem => match evT M tm t x, evT M tm u y with
   |some (.dv (.val (.int j x))), some (.dv (.val (.int l y))) => if j = l then if y = 0 then none else k (.pure (.I j (x.tmod y))) else none
   |_, _ => none
  | .shl => match evT M tm t x, evT M tm u y with
   |some (.dv (.val (.int j x))), some (.dv (.val (.int _ y))) => if y < 0 then none else k (.pure (.I j (j.wrap (x * 2 ^ (min y.toNat j.bits)))))
   |_, _ => none
  | .shr => match evT M tm t x, evT M tm u y with
   |some (.dv (.val (.int j x))), some (.dv (.val (.int _ y))) => if y < 0 then none else k (.pure (.I j (x.fdiv (2 ^ (min y.toNat j.bits)))))
   |_, _ => none
  | .add => match evT M tm t x, evT M tm u y with
   |some (.dv (.val (.string x))), some (.dv (.val (.string y))) => if x.size + y.size < 4611686018427387904 then k (.pure (.S (x ++ y))) else none
   |some a, some b => match binE M .add t a b with | some v => k (.pure v) | none => none
   |_, _ => none
  |op => match evT M tm t x, evT M tm u y with
   |some a, some b => match binE M op t a b with | some v => k (.pure v) | none => none
   |_, _ => none
 | .unOp op t x =>
  match op, evT M tm t x with
  | .neg, some (.dv (.val (.int j n))) => k (.pure (.I j (j.wrap (0 - n))))
  | .not, some (.dv (.val (.bool b))) => k (.pure (.B (!b)))
  |_, _ => none
 | .convert src dst x =>
  match M.und src, M.und dst, evT M tm src x with
  |some (.int _), some (.int j), some (.dv (.val (.int _ n))) => k (.pure (.I j (j.wrap n)))
  |some .string, some .string, some (.dv (.val (.string s))) => k (.pure (.S s))
  |some (.slice e), some .string, some (.sl _ [.i .u8] rows _) =>
   match M.und e with
   |some (.int .u8) => k (.pure (.S (bytesOf rows)))
   |_ => none
  |_, _, _ => none
 | .makeInterface t x =>
  match M.und t, evT M tm t x with
  |some (.interface _), _ => none
  |some _, some v => k (.pure (.ifc t v))
  |_, _ => none
 | .makeFunc (.func f) first caps =>
  match first.toList, evs M tm [] caps.toList with
  |[], some l => k (.pure (.fn f l))
  |_, _ => none
 | .slice t x lo hi mx =>
  match evT M tm t x, evO M tm lo, evO M tm hi, evO M tm mx with
  |some (.dv (.val (.string s))), some l, some h, some q => match M.und t with | some .string => sliceE (.S s) l h q k | _ => none
  |some (.sl n ks rows r), some l, some h, some q => if elemOk M t ks then sliceE (.sl n ks rows r) l h q k else none
  |some (.ms j ks off n c), some l, some h, some q => if elemOk M t ks then sliceE (.ms j ks off n c) l h q k else none
  |_, _, _, _ => none
 | .fieldAddr s x f =>
  match field? M s f, evT M tm 0 x with
  |some (off, ft), some (.pl j o) => match M.size ft with | some n => if Nat.blt 0 n && !Nat.beq o mapOff && !Nat.beq (o + off) mapOff then k (.pure (.pl j (o + off))) else none | none => none
  |some (off, ft), some (.pv ks row o) => match M.size ft with | some n => if Nat.blt 0 n && Nat.blt (pvOff o + off) 3000000000 then k (.pure (.pv ks row (o + off))) else none | none => none
  |some (off, ft), some (.pa j ks i q) => match M.size ft with | some n => if Nat.blt 0 n then k (.pure (.pa j ks i (q + off))) else none | none => none
  |_, _ => none
 | .field s x f =>
  match field? M s f, evT M tm s x with
  |some (off, ft), some (.agg cs) =>
   match M.agg ft, M.size ft with
   |some true, some n => if Nat.ble (off + n) cs.length then k (.pure (.agg ((cs.drop off).take n))) else none
   |some false, some _ => match cs[off]? with | some v => k (.pure v) | none => none
   |_, _ => none
  |_, _ => none
 | .indexAddr t x i =>
  match evT M tm t x, evT M tm 0 i with
  |some (.sl _ ks rows r), some (.dv (.val (.int _ i))) =>
   if elemOk M t ks && Nat.blt 0 ks.length then if 0 ≤ i then if i < (rows.length : Int) then k (.pure (.pv ks (rows.getD i.toNat []) r.at)) else none else none else none
  |some (.ms j ks off n _), some (.dv (.val (.int _ i))) =>
   if elemOk M t ks && Nat.blt 0 ks.length then if 0 ≤ i then if i < (n : Int) then k (.pure (.pa j ks (off + i.toNat) 0)) else none else none else none
  |some (.pl j o), some (.dv (.val (.int _ i))) =>
   match M.und t with
   |some (.array l e) => match M.size e with
    |some n => if 0 ≤ i then if i < (l : Int) then if Nat.blt (o + l * n) mapOff then k (.pure (.pl j (o + i.toNat * n))) else none else none else none
    |none => none
   |_ => none
  |_, _ => none
 | .index t x i =>
  match evT M tm t x, evT M tm 0 i with
  |some (.dv (.val (.string s))), some (.dv (.val (.int _ i))) =>
   match M.und t with
   |some .string => if 0 ≤ i then if i < (s.size : Int) then k (.pure (.I .u8 (bt s i))) else none else none
   |_ => none
  |some (.agg cs), some (.dv (.val (.int _ i))) =>
   match M.und t with
   |some (.array l e) => match  M.kds e, M.agg e, M.size e, AV.flats cs with
    |some [kd], some false, some 1, some row =>
     if Nat.beq cs.length l && Row.ofKds (List.replicate l kd) row then
      if 0 ≤ i then if i < (l : Int) then k (.pure (Row.cell kd row i.toNat)) else none else none
     else none
    |some [_], some false, some 1, none => if Nat.beq cs.length l then pickIx (fun v => k (.pure v)) i 0 cs else none
    |_, _, _, _ => none
   |_ => none
  |_, _ => none
 | .typeAssert x _ t false =>
  match M.und t, evT M tm 0 x with
  |some (.interface _), _ => none
  |some _, some (.ifc u v) => if Nat.beq u t then k (.pure v) else none
  |_, _ => none
 | .extract x i =>
  match evT M tm 0 x with
  |some (.tup vs) => match vs[i]? with | some v => k (.pure v) | none => none
  |_ => none
 | .panic x =>
  match evT M tm o.type x with
  |some (.ifc t v) => kp (.pure (.ifc t v))
  |_ => none
 | .call c =>
  match c.callee with
  | .builtin b => match evs M tm c.argTypes.toList c.args.toList with
   |some args => builtinE M m o.dst b c.argTypes.toList args k
   |none => none
  | .value f => match evT M tm 0 f, evs M tm c.argTypes.toList c.args.toList with
   |some (.fn f caps), some args => callE Φ m o.dst f (args ++ caps) k kp
   |_, _ => none
  |_ => none
 |_ => none

def stepE {R : Type} (o : Oper) (s : St) (k : St → Option R) (kp : AV → St → Option R) : Option R :=
 opE M Φ s.t s.m o (fun e => k (s.apply o.dst e)) (fun e => kp e.val (s.apply none e))

def touch (tm : List AV) (m : Mem) (o : Oper) : List Nat :=
 match o.op with
 | .load _ x => match evT M tm 0 x with | some (.pl j _) => [j] | some (.pa j _ _ _) => [j] | _ => []
 | .store _ x _ => match evT M tm 0 x with | some (.pl j _) => [j] | some (.pa j _ _ _) => [j] | _ => []
 | .lookup t x _ _ => match evT M tm t x with | some (.pl j _) => [j] | _ => []
 | .mapUpdate t x _ _ => match evT M tm t x with | some (.pl j _) => [j] | _ => []
 | .call c => match c.callee with
  | .value f => match evT M tm 0 f, evs M tm c.argTypes.toList c.args.toList with
   |some (.fn _ caps), some args => reach m (AV.slots (args ++ caps))
   |_, _ => []
  | .builtin .clear => match evs M tm c.argTypes.toList c.args.toList with | some args => AV.slots args | none => []
  | .builtin .copy => match evs M tm c.argTypes.toList c.args.toList with | some args => AV.slots args | none => []
  | .builtin .append => match evs M tm c.argTypes.toList c.args.toList with | some args => AV.slots args | none => []
  |_ => []
 |_ => []
def regD {R : Type} (kp : AV → St → Option R) (all : List Oper) (B : List (List Nat)) : List Oper → List El → St → (St → Option R) → Option R
 |[], _, s, k => k s
 |o :: rest, acc, s, k =>
  match o.guard with
  |none =>
   opE M Φ s.t s.m o (fun e =>
    regN B acc (El.of Φ.hs all B acc.length o e true (touch M s.t s.m o)) (s.apply o.dst e) (fun acc s => regD kp all B rest acc s k)) (fun e => regP kp all B acc o s e)
  |some (j, want) =>
   match guardTmp all j with
   |none => none
   |some d =>
    match s.t[d]? with
    |some (.dv (.val (.bool b))) =>
     match b, want with
     |true, true =>
      opE M Φ (s.t.set d (.B true)) s.m o (fun e =>
       regN B acc (El.of Φ.hs all B acc.length o e true (touch M (s.t.set d (.B true)) s.m o)) ((St.mk (s.t.set d (.B true)) s.m).apply o.dst e) (fun acc s => regD kp all B rest acc s k)) (fun _ => none)
     |false, false =>
      opE M Φ (s.t.set d (.B false)) s.m o (fun e =>
       regN B acc (El.of Φ.hs all B acc.length o e true (touch M (s.t.set d (.B false)) s.m o)) ((St.mk (s.t.set d (.B false)) s.m).apply o.dst e) (fun acc s => regD kp all B rest acc s k)) (fun _ => none)
     |true, false =>
      regN B acc (El.of Φ.hs all B acc.length o (.pure .junk) false []) ((St.mk (s.t.set d (.B true)) s.m).apply o.dst (.pure .junk)) (fun acc s => regD kp all B rest acc s k)
     |false, true =>
      regN B acc (El.of Φ.hs all B acc.length o (.pure .junk) false []) ((St.mk (s.t.set d (.B false)) s.m).apply o.dst (.pure .junk)) (fun acc s => regD kp all B rest acc s k)
    |_ => none
def regA {R : Type} (kp : AV → St → Option R) (ops : List Oper) (s : St) (k : St → Option R) : Option R :=
 if backs 0 ops then
  befsK ops [] fun B => match strikes Φ.hs ops B 0 ops with
  |(p, ks) => regD M Φ kp ops B ops [] (strike p ks s) k
 else none

def reg1 {R : Type} (all : List Oper) (o : Oper) (s : St) (k : St → Option R) (kp : AV → St → Option R) : Option R :=
  match o.guard with
  |none => stepE M Φ o s k kp
  |some (j, want) =>
   match guardTmp all j with
   |none => none
   |some d =>
    match s.t[d]? with
    |some (.dv (.val (.bool b))) =>
     match b, want with
     |true, true => stepE M Φ o { t := s.t.set d (.B true), m := s.m } k kp
     |false, false => stepE M Φ o { t := s.t.set d (.B false), m := s.m } k kp
     |true, false => k { t := setT (s.t.set d (.B true)) o.dst (.tup []), m := s.m }
     |false, true => k { t := setT (s.t.set d (.B false)) o.dst (.tup []), m := s.m }
    |some (.tup []) => k { t := setT s.t o.dst (.tup []), m := s.m }
    |_ => none
def regE {R : Type} (lv : Live) (all : List Oper) : List Oper → St → (St → Option R) → (AV → St → Option R) → Option R
 |[], s, k, _ => k s
 |o :: rest, s, k, kp => pre (opPrep lv o) s fun s => reg1 M Φ all o s (fun s' => regE lv all rest s' k kp) kp

def den {R : Type} (lv : Live) (n : Nat) : Code → (Ex → St → Option R) → St → Option R
 | .skip, K, s => K .normal s
 | .region id ops draw, K, s => pre (prep lv id) s fun s =>
  match draw with
  |false => regE M Φ lv ops.toList ops.toList s (fun s => s.force (fun s => K .normal s)) (fun v s => K (.pan v) s)
  |true => regA M Φ (fun v s => K (.pan v) s) ops.toList s (fun s => s.force (fun s => K .normal s))
 | .seq a b, K, s => den lv n a (fun e s' => match e with | .normal => den lv n b K s' | e => K e s') s
 | .cond c a b, K, s =>
  match evT M s.t 0 c with
  |some (.dv (.val (.bool x))) => match x with | true => den lv n a K s | false => den lv n b K s
  |_ => none
 | .block id b, K, s => den lv n b (fun e s' => match e with | .exit j => if Nat.beq j id then K .normal s' else K (.exit j) s' | e => K e s') s
 | .loop b, K, s =>
  match live lv (key b) with
  |some (tl, ml) => match norm tl ml s with
   |some s => loopE (key b) tl ml (fun K s => den lv n b K s) n K s
   |none => none
  |none => none
 | .exit id, K, s => K (.exit id) s
 | .ret, K, s => pre (prep lv 999998) s fun s => K .ret s
 | .scope b, K, s => den lv n b K s
 | .label _, K, s => K .normal s
 |_, _, _ => none

def find {R : Type} (lv : Live) (n : Nat) (q : Nat) : List Nat → Code → (Ex → St → Option R) → Option (LoopAt R)
 |left, .seq a b, K =>
  match find lv n q left a (fun e s' => match e with | .normal => den M Φ lv n b K s' | e => K e s') with
  |some r => some r
  |none => find lv n q left b K
 |left, .cond _ a b, K =>
  match find lv n q left a K with
  |some r => some r
  |none => find lv n q left b K
 |left, .scope b, K => find lv n q left b K
 |left, .block id b, K => find lv n q left b (fun e s' => match e with | .exit j => if Nat.beq j id then K .normal s' else K (.exit j) s' | e => K e s')
 |left, .loop b, K =>
  match live lv (key b) with
  |none => none
  |some (tl, ml) =>
   if Nat.beq (key b) q then some ⟨tl, ml, fun K s => den M Φ lv n b K s, K⟩ else
   match left with
   |[] => none
   |i :: left => find lv n q left b (fun e s' => match e with
    | .normal => match norm tl ml s' with
     |some s' => loopE (key b) tl ml (fun K s => den M Φ lv n b K s) i K s'
     |none => none
    |e => K e s')
 |_, _, _ => none

def resE {R : Type} (s : St) : List ResultVar → (List AV → Option R) → Option R
 |[], k => k []
 | .tmp t :: l, k => match s.t[t]? with
  |some v => resE s l fun vs => k (v :: vs)
  |none => none
 | .cell a t :: l, k => match s.t[a]? with
  |some v => loadE M s.m t v fun e => resE s l fun vs => k (e.val :: vs)
  |none => none
def fin {R : Type} (fn : Func) (keep : Bool) (ext : List (List AV)) (K : Out → Option R) (e : Ex) (s : St) : Option R :=
 match e with
 | .exit _ => none
 | .pan v => match extX s.m ext with
  |some ex => K ⟨true, v.bare, ex⟩
  |none => none
 |_ => resE M s fn.results.toList fun vs => match canon (keep && !lentX ext) vs, extX s.m ext with
  |some v, some ex => K ⟨false, v, ex⟩
  |_, _ => none
def denFn {R : Type} (lv : Live) (n : Nat) (fn : Func) (keep : Bool) (args : List AV) (ext : List (List AV)) (K : Out → Option R) : Option R :=
 match fn.body with
 |none => none
 |some c =>
  if Nat.ble args.length fn.ntmps && !((AV.hasTokL args || AV.hasTokLL ext) && anyPrep lv) then
   den M Φ lv n c (fin M fn keep ext K) { t := (match live lv 999999 with | some _ => AV.oldenL args | none => args) ++ List.replicate (fn.ntmps - args.length) .junk, m := zipExt 1000 (match live lv 999999 with | some _ => oldExt ext | none => ext) }
  else none
def loopFn {R : Type} (lv : Live) (n : Nat) (fn : Func) (keep : Bool) (ext : List (List AV)) (K : Out → Option R) (q : Nat) (left : List Nat) (i : Nat) (s : St) : Option R :=
 match fn.body with
 |none => none
 |some c =>
  match find M Φ lv n q left c (fin M fn keep ext K) with
  |some r => loopE q r.tl r.ml r.body i r.K s
  |none => none
def finN {R : Type} (fn : Func) (ds : List Nat) (ext : List (List AV)) (K : Out → Option R) (e : Ex) (s : St) : Option R :=
 match e with
 | .exit _ => none
 | .pan _ => none
 |_ => resE M s fn.results.toList fun vs => match extN ds ext.length s.m 1000 ext, ownOf ds ext.length s.m ds with
  |some ex, some nw => K ⟨false, oneOf (AV.ownL ds ext.length vs), ex ++ nw⟩
  |_, _ => none
def denFnN {R : Type} (lv : Live) (n : Nat) (fn : Func) (ds : List Nat) (args : List AV) (ext : List (List AV)) (K : Out → Option R) : Option R :=
 match fn.body with
 |none => none
 |some c =>
  if Nat.ble args.length fn.ntmps && nodup ds && allLt 1000 ds && !ds.isEmpty && !(AV.hasTokL args || AV.hasTokLL ext) then
   den M Φ lv n c (finN M fn ds ext K) { t := (match live lv 999999 with | some _ => AV.oldenL args | none => args) ++ List.replicate (fn.ntmps - args.length) .junk, m := zipExt 1000 (match live lv 999999 with | some _ => oldExt ext | none => ext) }
  else none
def loopFnN {R : Type} (lv : Live) (n : Nat) (fn : Func) (ds : List Nat) (ext : List (List AV)) (K : Out → Option R) (q : Nat) (left : List Nat) (i : Nat) (s : St) : Option R :=
 match fn.body with
 |none => none
 |some c =>
  match find M Φ lv n q left c (finN M fn ds ext K) with
  |some r => loopE q r.tl r.ml r.body i r.K s
  |none => none
def ahead {R : Type} (lv : Live) (n : Nat) (kD : FuncId → List AV → Code → St → Option R) (K : Ex → St → Option R) : Code → St → Option R
 | .seq a b, s =>
  match deferOf a with
  |some (o1, f) => stepE M Φ o1 s (fun s => match evT M s.t 0 f with
   |some (.fn g caps) => kD g caps b s
   |_ => none) (fun v s => K (.pan v) s)
  |none => den M Φ lv n a (fun e s' => match e with | .normal => ahead lv n kD K b s' | e => K e s') s
 |_, _ => none
def denClo {R : Type} (lv : Live) (n : Nat) (fn : Func) (rv : AV) (args : List AV) (ext : List (List AV)) (K : Out → Option R) : Option R :=
 match fn.body with
 |some (.seq (.region _ ops false) b) =>
  match ops.toList with
  |o :: os =>
   match isRecover o && Nat.ble args.length fn.ntmps with
   |true => (St.mk (setT (args ++ List.replicate (fn.ntmps - args.length) .junk) o.dst rv) (zipExt 1000 ext)).force fun s => regE M Φ [] (o :: os) os s
     (fun s => s.force (fun s => den M Φ lv n b (fin M fn false ext K) s)) (fun v s => fin M fn false ext K (.pan v) s)
   |false => none
  |[] => none
 |_ => none
def leaveU {R : Type} (lvC : Live) (n : Nat) (fn g : Func) (gid : FuncId) (caps : List AV) (K : Out → Option R) (rv : List Nat → AV) (s : St) : Option R :=
 forceN (dedup (AV.slots caps)) fun ks =>
 match cellsOf s.m ks ks with
 |some ext => denClo M Φ lvC n g (rv ks) (AV.passL ks caps) ext (fun out => match out.pan with
  |false => (s.apply none (callEff ks none out)).force fun s => resE M s fn.results.toList fun vs => match canon false vs with
   |some v => match v.loose with
    |true => K ⟨false, v, []⟩
    |false => none
   |none => none
  |true => none)
 |none => none
def leaveE {R : Type} (lvC : Live) (n : Nat) (fn g : Func) (gid : FuncId) (caps : List AV) (K : Out → Option R) (e : Ex) (s : St) : Option R :=
 match e with
 | .exit _ => none
 | .pan v => leaveU M Φ lvC n fn g gid caps K (fun ks => AV.pass ks v) s
 |_ => leaveU M Φ lvC n fn g gid caps K (fun _ => .dv (.val .nilIface)) s
def denFnD {R : Type} (lv : Live) (n : Nat) (fn g : Func) (gid : FuncId) (lvC : Live) (args : List AV) (K : Out → Option R) : Option R :=
 match fn.body with
 |none => none
 |some c =>
  if Nat.ble args.length fn.ntmps && !(AV.hasTokL args) then
   ahead M Φ lv n (fun f caps b s =>
    forceN (dedup (AV.slots s.t)) fun ks => AV.forceL (AV.passL ks caps) fun caps =>
    match Nat.beq f gid && allPl caps, cellsOf s.m ks ks with
    |true, some ext => (St.mk (AV.passL ks s.t) (zipExt 1000 ext)).force fun s => den M Φ lv n b (leaveE M Φ lvC n fn g gid caps K) s
    |_, _ => none) (fin M fn false [] K) c { t := args ++ List.replicate (fn.ntmps - args.length) .junk, m := zipExt 1000 [] }
  else none
def loopFnD {R : Type} (lv : Live) (n : Nat) (fn g : Func) (gid : FuncId) (lvC : Live) (caps : List AV) (K : Out → Option R) (q : Nat) (left : List Nat) (i : Nat) (s : St) : Option R :=
 match fn.body with
 |none => none
 |some c =>
  match behind c with
  |none => none
  |some b =>
   match find M Φ lv n q left b (leaveE M Φ lvC n fn g gid caps K) with
   |some r => loopE q r.tl r.ml r.body i r.K s
   |none => none
def roundFn {R : Type} (lv : Live) (n : Nat) (fn : Func) (keep : Bool) (ext : List (List AV)) (K : Out → Option R) (q : Nat) (left : List Nat) (i : Nat) (s : St) : Option R :=
 match fn.body with
 |none => none
 |some c =>
  match find M Φ lv n q left c (fin M fn keep ext K) with
  |some r => r.body (fun e s' => match e with
   | .normal => match norm r.tl r.ml s' with
    |some s' => loopE q r.tl r.ml r.body i r.K s'
    |none => none
   |e => r.K e s') s
  |none => none
def roundFnD {R : Type} (lv : Live) (n : Nat) (fn g : Func) (gid : FuncId) (lvC : Live) (caps : List AV) (K : Out → Option R) (q : Nat) (left : List Nat) (i : Nat) (s : St) : Option R :=
 match fn.body with
 |none => none
 |some c =>
  match behind c with
  |none => none
  |some b =>
   match find M Φ lv n q left b (leaveE M Φ lvC n fn g gid caps K) with
   |some r => r.body (fun e s' => match e with
    | .normal => match norm r.tl r.ml s' with
     |some s' => loopE q r.tl r.ml r.body i r.K s'
     |none => none
    |e => r.K e s') s
   |none => none
def roundFnN {R : Type} (lv : Live) (n : Nat) (fn : Func) (ds : List Nat) (ext : List (List AV)) (K : Out → Option R) (q : Nat) (left : List Nat) (i : Nat) (s : St) : Option R :=
 match fn.body with
 |none => none
 |some c =>
  match find M Φ lv n q left c (finN M fn ds ext K) with
  |some r => r.body (fun e s' => match e with
   | .normal => match norm r.tl r.ml s' with
    |some s' => loopE q r.tl r.ml r.body i r.K s'
    |none => none
   |e => r.K e s') s
  |none => none
end
end Go.Den.DM
namespace Go.Den
theorem dm_opE_eq (P : Program) (Φ : Orc) {R : Type} : @DM.opE (Memo.std P) Φ R = @opE P Φ R := by kernel_rfl
theorem dm_regE_eq (P : Program) (Φ : Orc) {R : Type} : @DM.regE (Memo.std P) Φ R = @regE P Φ R := by kernel_rfl
theorem dm_regA_eq (P : Program) (Φ : Orc) {R : Type} : @DM.regA (Memo.std P) Φ R = @regA P Φ R := by kernel_rfl
theorem dm_den_eq (P : Program) (Φ : Orc) {R : Type} : @DM.den (Memo.std P) Φ R = @den P Φ R := by kernel_rfl
theorem dm_denFn_eq (P : Program) (Φ : Orc) {R : Type} : @DM.denFn (Memo.std P) Φ R = @denFn P Φ R := by kernel_rfl
theorem dm_denFnD_eq (P : Program) (Φ : Orc) {R : Type} : @DM.denFnD (Memo.std P) Φ R = @denFnD P Φ R := by kernel_rfl
theorem dm_denFnN_eq (P : Program) (Φ : Orc) {R : Type} : @DM.denFnN (Memo.std P) Φ R = @denFnN P Φ R := by kernel_rfl

inductive BT (α : Type) where
 |nil
 |one (k : Nat) (v : α)
 |node (k : Nat) (l r : BT α)
def BT.get {α : Type} : BT α → Nat → Option α
 | .nil, _ => none
 | .one k v, t => match Nat.beq t k with | true => some v | false => none
 | .node k l r, t => match Nat.ble k t with | true => r.get t | false => l.get t
def BT.toList {α : Type} : BT α → List (Nat × α)
 | .nil => []
 | .one k v => [(k, v)]
 | .node _ l r => l.toList ++ r.toList
theorem BT.get_mem {α : Type} : ∀ {b : BT α} {t : Nat} {v : α}, b.get t = some v → (t, v) ∈ b.toList
 | .nil, t, v, h => by cases h
 | .one k u, t, v, h => by
  simp only [BT.get] at h
  split at h
  ·rename_i hk; cases h; simp only [beq_eq] at hk; subst hk; exact List.mem_cons_self
  ·cases h
 | .node k l r, t, v, h => by
  simp only [BT.get] at h
  split at h
  ·exact List.mem_append_right _ (BT.get_mem h)
  ·exact List.mem_append_left _ (BT.get_mem h)
def memo {α : Type} (b : BT α) (f : Nat → α) (t : Nat) : α :=
 match b.get t with
 |some v => v
 |none => f t
theorem memo_eq {α : Type} {b : BT α} {f : Nat → α} (h : b.toList.map (fun p => f p.1) = b.toList.map (fun p => p.2)) : memo b f = f := by
 funext t
 unfold memo
 cases hg : b.get t with
 |none => rfl
 |some v =>
  have hm := BT.get_mem hg
  have : ∀ p ∈ b.toList, f p.1 = p.2 := by
   intro p hp
   obtain ⟨i, hi, rfl⟩ := List.getElem_of_mem hp
   have h1 := congrArg (fun l => l[i]?) h
   simp only [List.getElem?_map, List.getElem?_eq_getElem hi, Option.map_some, Option.some.injEq] at h1
   exact h1
  exact (this _ hm).symm
theorem auto_okM {P : Program} {M : Memo} (hM : M = Memo.std P) {Φ : Orc} (hΦ : OSound P Φ) (hp : Pick Φ) (hmix : P.follows .mixedOrders = true) {f : FuncId} {fn : Func} (hf : P.funcs[f]? = some fn) (hname : fn.name ≠ "runtime.NumGoroutine") {lv : Live} {n : Nat} {keep : Bool}
  {args : List AV} {ext : List (List AV)} {o : OSh} {y : o.ty} (h : DM.denFn M Φ lv n fn keep args ext o.chk = some y) : Contract P f args ext (o.enc y) := by
 subst hM
 rw [dm_denFn_eq] at h
 exact auto_ok hΦ hp hmix hf hname h
theorem autoD_okM {P : Program} {M : Memo} (hM : M = Memo.std P) {Φ : Orc} (hΦ : OSound P Φ) (hmix : P.follows .mixedOrders = true) {f : FuncId} {fn : Func} (hf : P.funcs[f]? = some fn) (hname : fn.name ≠ "runtime.NumGoroutine") {gid : FuncId} {g : Func} (hg : P.funcs[gid]? = some g)
  (hgb : g.body.isSome = true) (hgn : g.name ≠ "runtime.NumGoroutine") {lv lvC : Live} {n : Nat} {args : List AV} {o : OSh} {y : o.ty} (h : DM.denFnD M Φ lv n fn g gid lvC args o.chk = some y) : Contract P f args [] (o.enc y) := by
 subst hM
 rw [dm_denFnD_eq] at h
 exact autoD_ok hΦ hmix hf hname hg hgb hgn h
theorem autoN_okM {P : Program} {M : Memo} (hM : M = Memo.std P) {Φ : Orc} (hΦ : OSound P Φ) (hmix : P.follows .mixedOrders = true) {f : FuncId} {fn : Func} (hf : P.funcs[f]? = some fn) (hname : fn.name ≠ "runtime.NumGoroutine") {lv : Live} {n : Nat} {ds : List Nat}
  {args : List AV} {ext : List (List AV)} {o : OSh} {y : o.ty} (h : DM.denFnN M Φ lv n fn ds args ext o.chk = some y) : Contract P f args ext (o.enc y) := by
 subst hM
 rw [dm_denFnN_eq] at h
 exact fnN_sound hΦ hmix hf hname (fun out ho => o.chk_enc out y ho) h
end Go.Den
