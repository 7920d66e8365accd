import Derived.Test.YtbdjanjcphgjdaaGreatDoorZ36
set_option linter.unusedVariables false
set_option linter.unusedSimpArgs false
set_option linter.unusedSectionVars false
namespace Go.Den
open Go.Proofs
set_option maxRecDepth 20000
set_option linter.unusedVariables false
theorem bigN_2' : 2000000 < bigN := by unfold bigN reachBytes; omega
theorem obs' {α β : Type} (a : α) (f : α → Option β) : obind (some a) f = f a := rfl
theorem rewL_len' : ∀ (l : List RuleD) (i : Nat), (∀ d ∈ l, d.2.2.2.2.length ≤ 1000) → (rewL l i).length ≤ 2001 * l.length
 |[], _, _ => Nat.zero_le _
 |d :: t, i, h => by
  have h1 := oneL_len (i : Int) d d.2.2.2.2 0 [] []
  have h2 := rewL_len' t (i + 1) (fun x hx => h x (by simp [hx]))
  have h3 := h d (by simp)
  rw [rewL, List.length_append, List.length_cons]
  simp only [List.length_nil] at h1
  omega
theorem rulesOk200 {l : Rows} (h : RowsFine kR l) (hw : weight5 200 l 0 ≤ 200) : RulesOk l := by
 obtain ⟨h1, h2⟩ := weight5_all2 l 0 h (Int.le_refl _) hw
 have hk : ∀ r ∈ l, ∀ q ∈ Row.R r 10, Row.ofKds kL q = true ∧ RowFine q := fun r hr q hq => rowsFine_mem (fine_sl (j := 10) (rowsFine_mem h hr).1 (rowsFine_mem h hr).2 rfl).2.2.1 hq
 have hb : 1000000 ≤ big := by unfold big; omega
 have hR : ∀ r ∈ l, RuleOk bigN r := fun r hr => ruleOk (rowsFine_mem h hr) (by have := (h2 r hr).1; omega) (by have := (h2 r hr).2.1; omega) (fun q hq => by have := (h2 r hr).2.2 q hq; omega)
 refine ⟨by omega, hR, fun r hr => ?_, fun r hr => ?_⟩
 ·have hR := hR r hr
  exact ⟨hR.len, hR.blen, fun q hq => (hR.body q hq).len, fun q hq => by have := Row.ofKds_length (hk r hr q hq).1; simp at this; omega⟩
 ·have hR := hR r hr
  have hN := bigN_big
  have a1 := hR.len
  have a2 := hR.blen
  exact ⟨⟨by omega, by omega⟩, ⟨⟨by omega, by omega⟩, fun q hq => by have := (hR.body q hq).len; exact ⟨by omega, by omega⟩⟩⟩
def smL (l : List LitD) : Prop := ∀ x ∈ l, x.2.2.1.length ≤ 1900000
def smD (x : RuleD) : Prop := x.2.2.1.length ≤ 1900000 ∧ x.2.2.2.2.length ≤ 1900000 ∧ smL x.2.2.2.2
theorem oneL_small (i : Int) (d : RuleD) (hb : ∀ k, (boundS d.1.1 d.2.2.2.2 k).length ≤ 1900000) (ha : d.2.2.1.length ≤ 1900000) : ∀ (l : List LitD) (k : Nat) (re : List LitD) (out : List RuleD), smL l → smL re → re.length + l.length ≤ 1000000 → (∀ x ∈ out, smD x) → ∀ x ∈ oneL i d l k re out, smD x
 |[], k, re, out, hl, hr, hn, ho, x, hx => by
  unfold oneL at hx
  rcases List.mem_append.1 hx with h | h
  ·exact ho x h
  ·rw [List.mem_singleton.1 h]
   simp only [List.length_nil] at hn
   exact ⟨ha, by show re.length ≤ _; omega, hr⟩
 |a :: l, k, re, out, hl, hr, hn, ho, x, hx => by
  rw [oneL_cons] at hx
  simp only [List.length_cons] at hn
  have ha' := hl a (by simp)
  have hl' : smL l := fun y hy => hl y (by simp [hy])
  cases h1 : remB d.1 a with
  |false =>
   rw [h1] at hx
   refine oneL_small i d hb ha l (k + 1) _ _ hl' (fun y hy => ?_) (by simp only [List.length_append, List.length_cons, List.length_nil]; omega) ho x hx
   rcases List.mem_append.1 hy with h | h
   ·exact hr y h
   ·rw [List.mem_singleton.1 h]; exact ha'
  |true =>
   rw [h1] at hx
   have b1 : ((boundS d.1.1 d.2.2.2.2 k).map varT).length ≤ 1900000 := by rw [List.length_map]; exact hb k
   have b2 : ((boundS d.1.1 d.2.2.2.2 (k + 1)).map varT).length ≤ 1900000 := by rw [List.length_map]; exact hb (k + 1)
   refine oneL_small i d hb ha l (k + 1) _ _ hl' (fun y hy => by rw [List.mem_singleton.1 hy]; exact b2) (by simp only [List.length_cons, List.length_nil]; omega) (fun y hy => ?_) x hx
   rcases List.mem_append.1 hy with h | h
   ·exact ho y h
   ·rcases List.mem_cons.1 h with rfl | h
    ·exact ⟨b1, by show re.length ≤ _; omega, hr⟩
    ·rw [List.mem_singleton.1 h]
     refine ⟨b2, by show 2 ≤ 1900000; omega, fun z hz => ?_⟩
     rcases List.mem_cons.1 hz with rfl | hz
     ·exact b1
     ·rw [List.mem_singleton.1 hz]; exact ha'
theorem rewL_small {n : Nat} : ∀ (l : Rows) (i : Nat), (∀ r ∈ l, RuleOk n r) → ∀ x ∈ rewL (l.map ruleD) i, smD x
 |[], i, _, x, hx => by cases hx
 |r :: t, i, hr, x, hx => by
  rw [List.map_cons, rewL] at hx
  rcases List.mem_append.1 hx with h | h
  ·have hk := hr r (by simp)
   refine oneL_small (i : Int) (ruleD r) (fun k => bound_len (s0 := (ruleD r).1.1) (bodyOk hk)) (by show (tms (Row.R r 5)).length ≤ _; rw [tms_len]; have := hk.len; omega) (ruleD r).2.2.2.2 0 [] [] (fun y hy => ?_) (fun y hy => by cases hy) (by
    show 0 + ((Row.R r 10).map litD).length ≤ _
    rw [List.length_map]; have := hk.blen; omega) (fun y hy => by cases hy) x h
   obtain ⟨q, hq, rfl⟩ := List.mem_map.1 hy
   show (tms (Row.R q 5)).length ≤ _
   rw [tms_len]; have := (hk.body q hq).len; omega
  ·exact rewL_small t (i + 1) (fun y hy => hr y (by simp [hy])) x h
theorem small2 {rows : Rows} (h : ∀ r ∈ rows, smD (ruleD r)) : ∀ a ∈ rows, Small2 bigN a := fun a ha => by
 obtain ⟨h1, h2, h3⟩ := h a ha
 have hN := bigN_2'
 have hB : 4000000 ≤ big := by unfold big; omega
 have e1 : (ruleD a).2.2.1.length = (Row.R a 5).length := tms_len _
 have e2 : (ruleD a).2.2.2.2.length = (Row.R a 10).length := List.length_map ..
 refine ⟨⟨by omega, by omega⟩, ⟨⟨by omega, by omega⟩, fun q hq => ?_⟩⟩
 have := h3 (litD q) (List.mem_map.2 ⟨q, hq, rfl⟩)
 have e3 : (litD q).2.2.1.length = (Row.R q 5).length := tms_len _
 exact ⟨by omega, by omega⟩
theorem z2_pure (b0 : Bool) (r1 : Rows) (h : Fsl b0 kR r1) : ∃ n, z2_v n b0 r1 = some (true, ()) := by
 refine ⟨bigN, ?_⟩
 have hN := bigN_big
 have hN2 := bigN_2'
 have hlv := live13_q (n := bigN) hN2
 have hB : 4000000 ≤ big := by unfold big; omega
 rw [z2_e, weight5_q (by omega) (by omega) h.2.2.1 h.1 (fun r hr => bigN_lt (fineR (rowsFine_mem h.2.2.1 hr)).2.2.1) (bigN_lt h.1), hlv]
 simp only [obs']
 by_cases hw : weight5 200 r1 0 > 200
 ·simp only [hw, decide_true, cond_true]
 ·simp only [hw, decide_false, cond_false]
  have hok := rulesOk200 h.2.2.1 (by omega)
  have hlen := hok.len
  obtain ⟨nl, hc⟩ := Copy_q (n := bigN) (b0 := b0) (by omega) (by omega) hok.copy
  have hD := copy_D (r1 := r1) (fun r hr => (hok.copy r hr).bl)
  have hokc := RulesOk.data hD.symm hok.ok
  have hlc : (r1.map copyRule).length = r1.length := List.length_map ..
  have hsm : ∀ a ∈ r1.map copyRule, Small2 bigN a := fun a ha => by
   have hR := hokc a ha
   have a1 := hR.len
   have a2 := hR.blen
   exact ⟨⟨by omega, by omega⟩, ⟨⟨by omega, by omega⟩, fun q hq => by have := (hR.body q hq).len; exact ⟨by omega, by omega⟩⟩⟩
  rw [hc]
  simp only [obs']
  have hlike : z53_v bigN nl (r1.map copyRule) b0 r1 = some (true, ()) := by
   rw [Like_qd (by omega) (by omega) hsm, hD]; simp
  have hpc : progC (r1.map copyRule) = progC r1 := progC_data hD
  rcases Rewrite_q (n := bigN) (r1 := r1.map copyRule) (b0 := nl) hN2 (by omega) hokc with ⟨c, rows, g0, g1, g2⟩ | ⟨g0, g1⟩
  ·rcases rRewrite_q (n := bigN) (r1 := r1) (b0 := b0) hN2 hlen hok.ok with ⟨c', rows', k0, k1, k2⟩ | ⟨k0, k1⟩
   ·have he : rows.map ruleD = rows'.map ruleD := by rw [g2, k2, hD]
    have hs : ∀ r ∈ rows, smD (ruleD r) := fun r hr => rewL_small (n := bigN) _ 0 hokc _ (by rw [← g2]; exact List.mem_map.2 ⟨r, hr, rfl⟩)
    have hrl : rows.length ≤ 1000000 := by
     have h1 := rewL_len' ((r1.map copyRule).map ruleD) 0 (fun d hd => by
      obtain ⟨r, hr, rfl⟩ := List.mem_map.1 hd
      show ((Row.R r 10).map litD).length ≤ 1000
      rw [List.length_map]; exact (hokc r hr).blen)
     rw [← g2, List.length_map, List.length_map, hlc] at h1
     omega
    rw [g1, k1]
    simp only [obs']
    rw [Like_qd (by omega) (by omega) (small2 hs), he, hlike]
    simp only [obs', decide_true, cond_true, beq_self_eq_true]
   ·exact absurd (hpc ▸ g0) k0
  ·rcases rRewrite_q (n := bigN) (r1 := r1) (b0 := b0) hN2 hlen hok.ok with ⟨c', rows', k0, k1, k2⟩ | ⟨k0, k1⟩
   ·exact absurd (hpc.symm ▸ k0) g0
   ·rw [g1, k1]
    simp only [obs']
    rw [Like_qd (r := []) (r3 := []) (by show 0 < big; omega) (by show 0 < bigN; omega) (fun a ha => by cases ha), hlike, hpc]
    simp only [obs', decide_true, cond_true, beq_self_eq_true]
end Go.Den
