import Derived.Test.YtkgiabbndbmmbaaZ26
set_option linter.unusedVariables false
set_option linter.unusedSimpArgs false
set_option linter.unusedSectionVars false
namespace Go.Den
open Go.Proofs
theorem hasK_isO {l : List KF} (ha : Asc ordK l) (f : KF) : hasK f l = isO ordK f l := Bool.eq_iff_iff.2 (hasK_in.trans (isO_in ordK_ord ha).symm)
section
variable {n : Nat} (hn : 1000 < n)
include hn
theorem refAll_loop {b0 b2 : Bool} {r1 r3 : Rows} (hl1 : r1.length ≤ 1000) (hs : SmallL r3) (hl : r3.length ≤ 1000) (ha : Asc ordK (r3.map kr)) : ∀ k q : Nat, q + k = r1.length → ∀ f, k < f →
    z48_l2 n b0 r1 b2 r3 f (q : Int) = some (((r1.drop q).map kr).all (fun g => isO ordK g (r3.map kr)), ()) := by
  intro k
  induction k with
  | zero =>
    intro q hq f hf
    obtain ⟨f, rfl⟩ : ∃ z, f = z + 1 := ⟨f - 1, by omega⟩
    rw [z48_s2, List.drop_eq_nil_of_le (show r1.length ≤ q by omega)]
    have h1 : ¬ ((q : Int) < (r1.length : Int)) := by omega
    simp only [h1, decide_false, cond_false, List.map_nil, List.all_nil]
  | succ k ih =>
    intro q hq f hf
    obtain ⟨f, rfl⟩ : ∃ z, f = z + 1 := ⟨f - 1, by omega⟩
    have hlt : q < r1.length := by omega
    have h1 : (q : Int) < (r1.length : Int) := by omega
    have h0 : (0 : Int) ≤ (q : Int) := by omega
    rw [z48_s2, List.drop_eq_getElem_cons hlt, wrap_succ (show q < big by unfold big; omega), List.map_cons, List.all_cons]
    simp only [h1, h0, decide_true, cond_true, if_true, Int.toNat_natCast, getD_get hlt, refHas_q hn hs hl, obind_some, hasK_isO ha]
    have ek : kf (Row.S r1[q] 0) (Row.S r1[q] 1) (Row.S r1[q] 2) (Row.N r1[q] 3) (Row.R r1[q] 3) = kr r1[q] := rfl
    rw [ek]
    cases isO ordK (kr r1[q]) (r3.map kr) with
    | false => rfl
    | true =>
      simp only [Bool.not_true, cond_false, Bool.true_and]
      exact ih (q + 1) (by omega) f (by omega)
theorem refAll_q {b0 b2 : Bool} {r1 r3 : Rows} (hl1 : r1.length ≤ 900) (hs : SmallL r3) (hl : r3.length ≤ 1000) (ha : Asc ordK (r3.map kr)) :
    z48_v n b0 r1 b2 r3 = some ((r1.map kr).all (fun g => isO ordK g (r3.map kr)), ()) := by
  rw [z48_e]
  have := refAll_loop hn (b0 := b0) (b2 := b2) (r1 := r1) (by omega) hs hl ha r1.length 0 (by omega) n (by omega)
  simpa using this
theorem refPass_loop {b0 b2 : Bool} {r1 r3 : Rows} {i0 : Nat} {B : List KF} {C : Nat} (h3 : SmallDs r3) (hl3 : r3.length ≤ 900) (hC : C ≤ 900) : ∀ k j : Nat, j + k = r3.length → ∀ f (b : Bool) (r : Rows) (more : Bool), k < f → Good (r3.map dr) B C (r.map kr) →
    ∃ b' r', z12_l6 n b0 r1 b2 r3 i0 f b r more (j : Int) = z12_l3 n b0 r1 b2 r3 i0 b' r' (grew ((r3.drop j).map dr) (r.map kr) more) ∧ r'.map kr = pass ((r3.drop j).map dr) (r.map kr) := by
  intro k
  induction k with
  | zero =>
    intro j hj f b r more hf hg
    obtain ⟨f, rfl⟩ : ∃ z, f = z + 1 := ⟨f - 1, by omega⟩
    rw [z12_s6, List.drop_eq_nil_of_le (show r3.length ≤ j by omega)]
    have h1 : ¬ ((j : Int) < (r3.length : Int)) := by omega
    simp only [h1, decide_false, cond_false, List.map_nil, grew, pass]
    exact ⟨b, r, rfl, rfl⟩
  | succ k ih =>
    intro j hj f b r more hf hg
    obtain ⟨f, rfl⟩ : ∃ z, f = z + 1 := ⟨f - 1, by omega⟩
    have hlt : j < r3.length := by omega
    have h1 : (j : Int) < (r3.length : Int) := by omega
    have h0 : (0 : Int) ≤ (j : Int) := by omega
    have hx := h3 _ (List.getElem_mem hlt)
    have hs : SmallL r := smallL_iff.2 hg.small
    have hlen := hg.len
    rw [List.length_map] at hlen
    have hmem : dr r3[j] ∈ r3.map dr := List.mem_map_of_mem (List.getElem_mem hlt)
    rw [z12_s6, List.drop_eq_getElem_cons hlt, List.map_cons, wrap_succ (show j < big by unfold big; omega)]
    simp only [h1, h0, decide_true, cond_true, if_true, Int.toNat_natCast, getD_get hlt, refHas_q hn hs (show r.length ≤ 1000 by omega), obind_some, hasK_isO hg.asc]
    have ek : kf (Row.S r3[j] 1) (Row.S r3[j] 2) (Row.S r3[j] 3) (Row.N r3[j] 4) (Row.R r3[j] 4) = (dr r3[j]).2.1 := rfl
    rw [ek]
    unfold grew pass
    cases hi : isO ordK (dr r3[j]).2.1 (r.map kr) with
    | true =>
      have hok : okD (r.map kr) (dr r3[j]) = false := by unfold okD; rw [hi]; rfl
      simp only [Bool.not_true, cond_false, hok]
      exact ih (j + 1) (by omega) f b r more (by omega) hg
    | false =>
      have hok : okD (r.map kr) (dr r3[j]) = ((Row.R r3[j] 5).map kr).all (fun g => isO ordK g (r.map kr)) := by unfold okD; rw [hi]; rfl
      simp only [Bool.not_false, cond_true, refAll_q hn (b0 := Row.N r3[j] 5) (r1 := Row.R r3[j] 5) (by have := hx.2.2.2.1; omega) hs (show r.length ≤ 1000 by omega) hg.asc, obind_some]
      rw [← hok]
      cases hq : okD (r.map kr) (dr r3[j]) with
      | false =>
        simp only [cond_false]
        exact ih (j + 1) (by omega) f b r more (by omega) hg
      | true =>
        simp only [cond_true]
        obtain ⟨z, rows, e1, e2⟩ := with_q hn (b0 := b) (b5 := Row.N r3[j] 4) (r1 := r) (r6 := Row.R r3[j] 4) (s2 := Row.S r3[j] 1) (s3 := Row.S r3[j] 2) (s4 := Row.S r3[j] 3) hs (by omega)
        rw [insK_insO, ek] at e2
        simp only [e1, obind_some]
        have hg' : Good (r3.map dr) B C (rows.map kr) := by
          rw [e2]; exact (hg.ins hmem ⟨hx.1, hx.2.1⟩ hq).1
        obtain ⟨b2', r2', g1, g2⟩ := ih (j + 1) (by omega) f z rows true (by omega) hg'
        refine ⟨b2', r2', ?_, ?_⟩
        · rw [g1, e2]
        · rw [g2, e2]
theorem refOut_loop {b0 b2 : Bool} {r1 r3 : Rows} {B : List KF} {C : Nat} (h3 : SmallDs r3) (hl3 : r3.length ≤ 900) (hC : C ≤ 900) : ∀ m : Nat, ∀ (b : Bool) (r : Rows), C - r.length ≤ m → ∀ f, m + 1 < f → Good (r3.map dr) B C (r.map kr) →
    ∃ b' r', z12_l3 n b0 r1 b2 r3 f b r true = some ((b', r'), (((b2, r3), ()), ())) ∧ Good (r3.map dr) B C (r'.map kr) ∧ (∀ d ∈ r3.map dr, okD (r'.map kr) d = false) := by
  have hsm : ∀ d ∈ r3.map dr, SmallK d.2.1 := fun d hd => by
    obtain ⟨x, hx, rfl⟩ := List.mem_map.1 hd
    exact ⟨(h3 x hx).1, (h3 x hx).2.1⟩
  intro m
  induction m with
  | zero =>
    intro b r hm f hf hg
    obtain ⟨f, rfl⟩ : ∃ z, f = z + 1 := ⟨f - 1, by omega⟩
    rw [z12_s3, cond_true]
    obtain ⟨b', r', e1, e2⟩ := refPass_loop hn (b0 := b0) (b2 := b2) (r1 := r1) (i0 := f) h3 hl3 hC r3.length 0 (by omega) n b r false (by omega) hg
    rw [show ((0 : Nat) : Int) = 0 from rfl, List.drop_zero] at e1
    rw [List.drop_zero] at e2
    obtain ⟨g1, g2, g3, g4⟩ := pass_good hsm (l := r3.map dr) hg (fun d hd => hd)
    cases hgr : grew (r3.map dr) (r.map kr) false with
    | true =>
      have h5 := g3 hgr
      have h6 := g1.len
      simp only [List.length_map] at h5
      omega
    | false =>
      obtain ⟨h5, h6⟩ := g4 hgr
      obtain ⟨f, rfl⟩ : ∃ z, f = z + 1 := ⟨f - 1, by omega⟩
      rw [e1, hgr, z12_s3, cond_false]
      rw [h5] at e2
      exact ⟨b', r', rfl, by rw [e2]; exact hg, by rw [e2]; exact h6⟩
  | succ m ih =>
    intro b r hm f hf hg
    obtain ⟨f, rfl⟩ : ∃ z, f = z + 1 := ⟨f - 1, by omega⟩
    rw [z12_s3, cond_true]
    obtain ⟨b', r', e1, e2⟩ := refPass_loop hn (b0 := b0) (b2 := b2) (r1 := r1) (i0 := f) h3 hl3 hC r3.length 0 (by omega) n b r false (by omega) hg
    rw [show ((0 : Nat) : Int) = 0 from rfl, List.drop_zero] at e1
    rw [List.drop_zero] at e2
    obtain ⟨g1, g2, g3, g4⟩ := pass_good hsm (l := r3.map dr) hg (fun d hd => hd)
    cases hgr : grew (r3.map dr) (r.map kr) false with
    | true =>
      have h5 := g3 hgr
      rw [← e2] at h5 g1
      simp only [List.length_map] at h5
      rw [e1, hgr]
      exact ih b' r' (by omega) f (by omega) g1
    | false =>
      obtain ⟨h5, h6⟩ := g4 hgr
      obtain ⟨f, rfl⟩ : ∃ z, f = z + 1 := ⟨f - 1, by omega⟩
      rw [e1, hgr, z12_s3, cond_false]
      rw [h5] at e2
      exact ⟨b', r', rfl, by rw [e2]; exact hg, by rw [e2]; exact h6⟩
theorem refFounded_q {b0 b2 : Bool} {r1 r3 : Rows} (h1 : SmallL r1) (hl1 : r1.length ≤ 450) (h3 : SmallDs r3) (hl3 : r3.length ≤ 450) :
    ∃ b' r', z12_v n b0 r1 b2 r3 = some ((b', r'), (((b2, r3), ()), ())) ∧ Strict (r'.map kr) ∧ (∀ f, InK (r'.map kr) f ↔ Fnd (r3.map dr) (r1.map kr) f) ∧ SmallL r' ∧ r'.length ≤ r1.length + r3.length := by
  rw [z12_e]
  obtain ⟨y, rows, e1, e2, e3, e4⟩ := refSorted_q hn (b0 := b0) h1 (by omega)
  rw [e1, obind_some]
  obtain ⟨k1, k2⟩ := sortK_ok (l := r1.map kr) (acc := []) List.Pairwise.nil
  rw [← e2] at k1 k2
  have hno : ∀ f, ¬ InK [] f := fun f ⟨k, hk, _⟩ => by cases hk
  have hg := Good.first (L := r3.map dr) (B := r1.map kr) k1 (fun f => (k2 f).trans ⟨fun h => h.resolve_left (hno f), .inr⟩) (smallL_iff.1 e4)
  simp only [List.length_map] at hg
  obtain ⟨b', r', g1, g2, g3⟩ := refOut_loop hn (b0 := b0) (b2 := b2) (r1 := r1) h3 (by omega) (C := rows.length + r3.length) (by omega) (rows.length + r3.length) y rows (by omega) n (by omega) hg
  refine ⟨b', r', g1, g2.asc, fun f => (g2.closed g3 f).symm, smallL_iff.2 g2.small, ?_⟩
  have := g2.len
  rw [List.length_map] at this
  omega
end
end Go.Den
