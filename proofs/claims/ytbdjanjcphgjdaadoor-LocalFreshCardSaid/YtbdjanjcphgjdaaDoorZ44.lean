import Derived.Test.YtbdjanjcphgjdaaDoorZ43
set_option linter.unusedVariables false
set_option linter.unusedSimpArgs false
set_option linter.unusedSectionVars false
namespace Go.Den
open Go.Proofs
set_option maxRecDepth 20000
set_option linter.unusedVariables false
def pN : List UInt8 → Nat → Nat → Nat
  | [], i, a => i * 17 + a
  | b :: l, i, a => match Nat.beq b.toNat 46 with | true => pN l a 0 | false => pN l i (a * 10 + (b.toNat - 48))
def keyP (s : ByteArray) : Nat :=
  match s.data.toList with
  | _ :: b :: _ :: _ :: l => match Nat.beq b.toNat 97 with | true => 2 * pN l 0 0 | false => 2 * pN (l.drop 1) 0 0 + 1
  | _ => 0
theorem keys_all : ((List.range 17).all fun i => (List.range 17).all fun k => Nat.beq (keyP (askP ++ nameD i k)) (2 * (i * 17 + k)) && Nat.beq (keyP (tellP ++ nameD i k)) (2 * (i * 17 + k) + 1)) = true := by kernel_rfl
theorem keyNK {i k : Nat} (hi : i < 17) (hk : k < 17) : keyP (askP ++ nameD i k) = 2 * (i * 17 + k) ∧ keyP (tellP ++ nameD i k) = 2 * (i * 17 + k) + 1 := by
  have h := List.all_eq_true.1 (List.all_eq_true.1 keys_all i (List.mem_range.2 hi)) k (List.mem_range.2 hk)
  simp only [Bool.and_eq_true] at h
  exact ⟨Nat.eq_of_beq_eq_true h.1, Nat.eq_of_beq_eq_true h.2⟩
structure Apart (m : List RuleD) (lo hi : Nat) : Prop where
  apart : m.Pairwise (fun a b => relayB a.2.1 = true → a.2.1 ≠ b.2.1)
  key : ∀ x ∈ m, relayB x.2.1 = true → lo ≤ keyP x.2.1 ∧ keyP x.2.1 < hi ∧ x.2.2.2.1 ≠ zeroT
theorem Apart.nil (lo hi : Nat) : Apart [] lo hi := ⟨List.Pairwise.nil, fun _ h => by cases h⟩
theorem Apart.app {m m' : List RuleD} {lo mid hi : Nat} (h1 : lo ≤ mid) (h2 : mid ≤ hi) (a : Apart m lo mid) (b : Apart m' mid hi) : Apart (m ++ m') lo hi where
  apart := by
    refine List.pairwise_append.2 ⟨a.apart, b.apart, fun x hx y hy hr he => ?_⟩
    have k1 := a.key x hx hr
    have k2 := b.key y hy (by rw [← he]; exact hr)
    rw [← he] at k2
    omega
  key := fun x hx hr => by
    rcases List.mem_append.1 hx with h | h
    · have := a.key x h hr; exact ⟨this.1, by omega, this.2.2⟩
    · have := b.key x h hr; exact ⟨by omega, this.2.1, this.2.2⟩
theorem Apart.one {x : RuleD} {lo hi : Nat} (h : relayB x.2.1 = true → lo ≤ keyP x.2.1 ∧ keyP x.2.1 < hi ∧ x.2.2.2.1 ≠ zeroT) : Apart [x] lo hi :=
  ⟨by simp, fun y hy => by rw [List.mem_singleton.1 hy]; exact h⟩
theorem Apart.wide {m : List RuleD} {lo hi hi' : Nat} (h : hi ≤ hi') (a : Apart m lo hi) : Apart m lo hi' :=
  ⟨a.apart, fun x hx hr => by have := a.key x hx hr; exact ⟨this.1, by omega, this.2.2⟩⟩
theorem oneL_apart {i : Nat} {d : RuleD} (hi : i < 17) (hd : d.1 ≠ zeroT) (hp : relayB d.2.1 = false) : ∀ (l : List LitD) (k : Nat) (re : List LitD) (out : List RuleD), k + l.length < 17 → Apart out (i * 34) (i * 34 + 2 * k) → Apart (oneL (i : Int) d l k re out) (i * 34) (i * 34 + 34)
  | [], k, re, out, hk, ho => by
    unfold oneL
    simp only [List.length_nil] at hk
    refine Apart.app (mid := i * 34 + 2 * k) (by omega) (by omega) ho (Apart.one fun h => ?_)
    rw [show relayB d.2.1 = true from h] at hp; cases hp
  | a :: l, k, re, out, hk, ho => by
    unfold oneL
    simp only [List.length_cons] at hk
    cases h1 : decide (a.2.2.2 = zeroT) with
    | true => exact oneL_apart hi hd hp l (k + 1) _ _ (by omega) (ho.wide (by omega))
    | false =>
      cases h2 : decide (a.2.2.2 = d.1) with
      | true => exact oneL_apart hi hd hp l (k + 1) _ _ (by omega) (ho.wide (by omega))
      | false =>
        simp only [cond_false]
        have hk' := keyNK (i := i) (k := k) hi (by omega)
        refine oneL_apart hi hd hp l (k + 1) _ _ (by omega) (Apart.app (mid := i * 34 + 2 * k) (by omega) (by omega) ho ?_)
        refine Apart.app (m := [_]) (m' := [_]) (mid := i * 34 + 2 * k + 1) (by omega) (by omega) (Apart.one fun h => ?_) (Apart.one fun h => ?_)
        · show _ ≤ keyP (askP ++ nameD i k) ∧ keyP (askP ++ nameD i k) < _ ∧ a.2.2.2 ≠ zeroT
          rw [hk'.1]
          exact ⟨by omega, by omega, of_decide_eq_false h1⟩
        · show _ ≤ keyP (tellP ++ nameD i k) ∧ keyP (tellP ++ nameD i k) < _ ∧ d.1 ≠ zeroT
          rw [hk'.2]
          exact ⟨by omega, by omega, hd⟩
theorem rewL_apart : ∀ (l : List RuleD) (i : Nat), i + l.length < 17 → (∀ d ∈ l, d.1 ≠ zeroT ∧ relayB d.2.1 = false ∧ d.2.2.2.2.length < 17) → Apart (rewL l i) (i * 34) ((i + l.length) * 34)
  | [], i, _, _ => by unfold rewL; exact Apart.nil _ _
  | d :: t, i, hi, h => by
    unfold rewL
    simp only [List.length_cons] at hi
    obtain ⟨g1, g2, g3⟩ := h d (by simp)
    have a := oneL_apart (i := i) (d := d) (by omega) g1 g2 d.2.2.2.2 0 [] [] (by omega) (Apart.nil _ _)
    have b := rewL_apart t (i + 1) (by omega) (fun x hx => h x (by simp [hx]))
    refine Apart.app (mid := i * 34 + 34) (by omega) (by simp only [List.length_cons]; omega) a ?_
    rw [show i * 34 + 34 = (i + 1) * 34 by omega, show i + (d :: t).length = i + 1 + t.length by simp only [List.length_cons]; omega]
    exact b
theorem progS_mem : ∀ (l : Rows) (i : Nat) (s : Seen), (progS l i s).1 = 0 → ∀ r ∈ l, ∃ u, ruleR r = some u
  | [], _, _, _, r, hr => by cases hr
  | a :: t, i, s, h, r, hr => by
    unfold progS at h
    cases h0 : ruleR a with
    | none => rw [h0] at h; cases h
    | some u =>
      rw [h0] at h
      simp only at h
      cases h2 : decide (placeD (ruleD a) > -2) with
      | true => rw [h2] at h; cases h
      | false =>
        cases h3 : decide ((aritD s (ruleD a)).2 > -2) with
        | true => rw [h2, h3] at h; cases h
        | false =>
          cases h4 : decide (freeR (ruleD a) > -2) with
          | true => rw [h2, h3, h4] at h; cases h
          | false =>
            cases h5 : openD (ruleD a) with
            | true => rw [h2, h3, h4, h5] at h; cases h
            | false =>
              rw [h2, h3, h4, h5] at h
              rcases List.mem_cons.1 hr with rfl | hr
              · exact ⟨u, h0⟩
              · exact progS_mem t (i + 1) _ h r hr
theorem progC_mem {l : Rows} (h : (progC l).1 = 0) : l.length ≤ 16 ∧ ∀ r ∈ l, ∃ u, ruleR r = some u := by
  unfold progC at h
  cases hd : decide ((l.length : Int) > 16) with
  | true => rw [hd] at h; cases h
  | false =>
    rw [hd] at h
    have : ¬ (l.length : Int) > 16 := of_decide_eq_false hd
    exact ⟨by omega, progS_mem _ _ _ h⟩
theorem word_relay {s : ByteArray} (h : wordS s = true) : relayB s = false := by
  unfold wordS namedS at h
  simp only [Bool.and_eq_true, decide_eq_true_eq] at h
  unfold relayB
  have h3 := h.1.2.2.1
  unfold isSmall at h3
  simp only [Bool.and_eq_true, decide_eq_true_eq] at h3
  have : (bt s 0 == 126) = false := by
    apply beq_eq_false_iff_ne.2
    omega
  rw [this, Bool.and_false]
theorem rule_facts {r : Row} {u : ByteArray} (h : ruleR r = some u) : (ruleD r).1 ≠ zeroT ∧ relayB (ruleD r).2.1 = false ∧ (ruleD r).2.2.2.2.length < 17 := by
  unfold ruleR at h
  cases h1 : decide ((Row.R r 10).length < 1) with
  | true => rw [h1] at h; cases h
  | false =>
    cases h2 : decide ((Row.R r 10).length > 4) with
    | true => rw [h1, h2] at h; cases h
    | false =>
      rw [h1, h2] at h
      simp only [cond_false] at h
      have hl : ¬ (Row.R r 10).length > 4 := of_decide_eq_false h2
      have hl2 : (ruleD r).2.2.2.2.length = (Row.R r 10).length := by show ((Row.R r 10).map litD).length = _; rw [List.length_map]
      unfold headR at h
      cases h3 : term1 (tmAt r 0) with
      | none => rw [h3] at h; cases h
      | some a =>
        cases h4 : atomR (Row.S r 4) (Row.R r 5) with
        | none => rw [h3, h4] at h; cases h
        | some b =>
          refine ⟨fun he => ?_, ?_, by omega⟩
          · rw [show tmAt r 0 = zeroT from he] at h3
            exact absurd h3 (by rw [show term1 zeroT = none from by kernel_rfl]; intro h; cases h)
          · unfold atomR at h4
            cases h5 : wordS (Row.S r 4) with
            | false => rw [h5] at h4; cases h4
            | true => exact word_relay h5
theorem Fresh_18 {n : Nat} {r1 : Rows} {b0 : Bool} (hn : 2000000 < n) (hl : r1.length ≤ 300) (hp : ∀ r ∈ r1, relayB (Row.S r 4) = false) : ∀ k q : Nat, q + k = r1.length → ∀ i, k < i → law13_LocalFresh_l18 n b0 r1 i (q : Int) = some (true, ()) := by
  have hb : 4000000 ≤ big := by unfold big; omega
  intro k
  induction k with
  | zero =>
    intro q hq i hi
    obtain ⟨i, rfl⟩ : ∃ m, i = m + 1 := ⟨i - 1, by omega⟩
    rw [law13_LocalFresh_s18, live13_q hn]
    have h1 : ¬ (q : Int) < (r1.length : Int) := by omega
    simp only [h1, decide_false, cond_false, obs]
  | succ k ih =>
    intro q hq i hi
    obtain ⟨i, rfl⟩ : ∃ m, i = m + 1 := ⟨i - 1, by omega⟩
    have hlt : q < r1.length := by omega
    have h1 : (q : Int) < (r1.length : Int) := by omega
    rw [law13_LocalFresh_s18, wrap_succ (show q < big by omega), ih (q + 1) (by omega) i (by omega)]
    simp only [h1, natj, if_true, decide_true, cond_true, Int.toNat_natCast, getD_get hlt, local_Relay_q, hp _ (List.getElem_mem hlt), obs, cond_false]
theorem Fresh_13 {n : Nat} {r1 m : Rows} {b0 b8 : Bool} {i0 p : Nat} (hm : m.length ≤ 1000000) (hp : p < m.length) (ha : ∀ q, (h : q < m.length) → q ≠ p → Row.S m[q] 4 ≠ Row.S m[p] 4) : ∀ k q : Nat, q + k = m.length → ∀ i, k < i →
    law13_LocalFresh_l13 n b0 r1 i0 i b8 m (q : Int) (p : Int) = law13_LocalFresh_l7 n b0 r1 i0 b8 m ((p + 1 : Nat) : Int) := by
  have hb : 4000000 ≤ big := by unfold big; omega
  have hw : IntKind.wrap IntKind.i64 ((p : Int) + 1) = ((p + 1 : Nat) : Int) := wrap_succ (by omega)
  have hp1 : (p : Int) < (m.length : Int) := by omega
  intro k
  induction k with
  | zero =>
    intro q hq i hi
    obtain ⟨i, rfl⟩ : ∃ m, i = m + 1 := ⟨i - 1, by omega⟩
    rw [law13_LocalFresh_s13]
    have h1 : ¬ (q : Int) < (m.length : Int) := by omega
    simp only [h1, decide_false, cond_false, hw]
  | succ k ih =>
    intro q hq i hi
    obtain ⟨i, rfl⟩ : ∃ m, i = m + 1 := ⟨i - 1, by omega⟩
    have hlt : q < m.length := by omega
    have h1 : (q : Int) < (m.length : Int) := by omega
    rw [law13_LocalFresh_s13, wrap_succ (show q < big by omega), ih (q + 1) (by omega) i (by omega)]
    simp only [h1, hp1, natj, if_true, decide_true, cond_true, Int.toNat_natCast, getD_get hlt, getD_get hp]
    by_cases hqp : q = p
    · subst hqp
      simp only [bne_self_eq_false, cond_false]
    · have e1 : ((q : Int) != (p : Int)) = true := by simp; omega
      have e2 : (Row.S m[q] 4 == Row.S m[p] 4) = false := beq_eq_false_iff_ne.2 (ha q hlt hqp)
      simp only [e1, e2, cond_true, cond_false]
theorem Fresh_7 {n : Nat} {r1 m : Rows} {b0 b8 : Bool} {lo hi : Nat} (hn : 2000000 < n) (hl : r1.length ≤ 300) (hp : ∀ r ∈ r1, relayB (Row.S r 4) = false) (hm : m.length ≤ 1000000) (ha : Apart (m.map ruleD) lo hi) : ∀ k q : Nat, q + k = m.length → ∀ i, k < i →
    law13_LocalFresh_l7 n b0 r1 i b8 m (q : Int) = some (true, ()) := by
  have hb : 4000000 ≤ big := by unfold big; omega
  intro k
  induction k with
  | zero =>
    intro q hq i hi
    obtain ⟨i, rfl⟩ : ∃ m, i = m + 1 := ⟨i - 1, by omega⟩
    rw [law13_LocalFresh_s7]
    have h1 : ¬ (q : Int) < (m.length : Int) := by omega
    simp only [h1, decide_false, cond_false]
    exact Fresh_18 hn hl hp r1.length 0 (by omega) n (by omega)
  | succ k ih =>
    intro q hq i hi
    obtain ⟨i, rfl⟩ : ∃ m, i = m + 1 := ⟨i - 1, by omega⟩
    have hlt : q < m.length := by omega
    have h1 : (q : Int) < (m.length : Int) := by omega
    have hgo := ih (q + 1) (by omega) i (by omega)
    rw [law13_LocalFresh_s7, wrap_succ (show q < big by omega)]
    simp only [h1, natj, if_true, decide_true, cond_true, Int.toNat_natCast, getD_get hlt, local_Relay_q, obs]
    cases hr : relayB (Row.S m[q] 4) with
    | false => simp only [Bool.not_false, cond_true]; exact hgo
    | true =>
      simp only [Bool.not_true, cond_false]
      have hto := (ha.key (ruleD m[q]) (List.mem_map.2 ⟨_, List.getElem_mem hlt, rfl⟩) hr).2.2
      have hz : (Row.S m[q] 6 == ByteArray.mk #[] && (Row.B m[q] 7 == false && (Row.I m[q] 8 == 0 && (Row.S m[q] 9 == ByteArray.mk #[] && true)))) = false :=
        (sameT_eq (tmAt m[q] 6) zeroT).trans (decide_eq_false hto)
      rw [hz]
      simp only [cond_false]
      have hpw := List.pairwise_iff_getElem.1 ha.apart
      have := Fresh_13 (n := n) (r1 := r1) (m := m) (b0 := b0) (b8 := b8) (i0 := i) (p := q) hm hlt (fun j hj hne he => by
        rcases Nat.lt_or_gt_of_ne hne with h | h
        · have := hpw j q (by rw [List.length_map]; exact hj) (by rw [List.length_map]; exact hlt) h
          simp only [List.getElem_map] at this
          exact this (by show relayB (Row.S m[j] 4) = true; rw [he]; exact hr) he
        · have := hpw q j (by rw [List.length_map]; exact hlt) (by rw [List.length_map]; exact hj) h
          simp only [List.getElem_map] at this
          exact this hr he.symm) m.length 0 (by omega) n (by omega)
      rw [show (0 : Int) = ((0 : Nat) : Int) from rfl, this]
      exact hgo
theorem law13_LocalFresh_pure (b0 : Bool) (r1 : Rows) (h : Fsl b0 kR r1) : ∃ n, law13_LocalFresh_v n b0 r1 = some (true, ()) := by
  refine ⟨bigN, ?_⟩
  have hN := bigN_big
  have hN2 := bigN_2
  have hlv := live13_q (n := bigN) hN2
  rw [law13_LocalFresh_e, weight5_q (by omega) (by omega) h.2.2.1 h.1 (fun r hr => bigN_lt (fineR (rowsFine_mem h.2.2.1 hr)).2.2.1) (bigN_lt h.1), hlv]
  simp only [obs]
  by_cases hw : weight5 200 r1 0 > 200
  · simp only [hw, decide_true, cond_true]
  · simp only [hw, decide_false, cond_false]
    have hok := rulesOk2 h.2.2.1 (by omega)
    rcases Rewrite_q (n := bigN) (r1 := r1) (b0 := b0) hN2 (by have := hok.1; omega) hok.2 with ⟨c, rows, g0, g1, g2⟩ | ⟨g0, g1⟩
    · rw [g1]
      simp only [obs, bne_self_eq_false, cond_false]
      have hm := made hok.1 hok.2 g2
      obtain ⟨p1, p2⟩ := progC_mem g0
      have hf : ∀ r ∈ r1, (ruleD r).1 ≠ zeroT ∧ relayB (ruleD r).2.1 = false ∧ (ruleD r).2.2.2.2.length < 17 := fun r hr => by
        obtain ⟨u, hu⟩ := p2 r hr
        exact rule_facts hu
      have ha := rewL_apart (r1.map ruleD) 0 (by rw [List.length_map]; omega) (fun d hd => by
        obtain ⟨r, hr, rfl⟩ := List.mem_map.1 hd
        exact hf r hr)
      rw [← g2] at ha
      have hml := hm.len
      exact Fresh_7 hN2 hok.1 (fun r hr => (hf r hr).2.1) hm.len ha rows.length 0 (by omega) bigN (by omega)
    · rw [g1]
      have : ((progC r1).1 != 0) = true := by simpa using g0
      simp only [obs, this, cond_true]
end Go.Den
