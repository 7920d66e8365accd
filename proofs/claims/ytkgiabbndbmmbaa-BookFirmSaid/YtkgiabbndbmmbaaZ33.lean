import Derived.Test.YtkgiabbndbmmbaaZ32
import Derived.Test.YtkgiabbndbmmbaaZ31
set_option linter.unusedVariables false
set_option linter.unusedSimpArgs false
set_option linter.unusedSectionVars false
namespace Go.Den
open Go.Proofs
theorem Fnd.idem {L : List KD} {B B' : List KF} (h : ∀ f, InK B' f → Fnd L B f) {f : KF} (hf : Fnd L B' f) : Fnd L B f := by
  induction hf with
  | base f hf => exact h f hf
  | step d f hd he _ ih => exact .step d f hd he ih
theorem ordB_zero : ∀ {a b : List KF}, ordB a b = 0 → ∀ g ∈ a, ∃ h ∈ b, ordK h g = 0
  | [], _, _, g, hg => by cases hg
  | _ :: _, [], h, _, _ => by simp [ordB] at h
  | x :: a, y :: b, h, g, hg => by
    unfold ordB at h
    rw [bif_ne] at h
    by_cases hxy : ordK x y = 0
    · rw [if_pos hxy] at h
      rcases List.mem_cons.1 hg with rfl | hg
      · exact ⟨y, List.mem_cons_self, ordK_sym hxy⟩
      · obtain ⟨k, hk, e⟩ := ordB_zero h g hg
        exact ⟨k, List.mem_cons_of_mem _ hk, e⟩
    · rw [if_neg hxy] at h; exact absurd h hxy
theorem ordD_zero {a b : KD} (h : ordD a b = 0) : ordK a.2.1 b.2.1 = 0 ∧ ordB a.2.2 b.2.2 = 0 := by
  unfold ordD at h
  rw [bif_ne, bif_ne] at h
  by_cases h1 : cmpI a.1 b.1 = 0
  · rw [if_pos h1] at h
    by_cases h2 : ordK a.2.1 b.2.1 = 0
    · rw [if_pos h2] at h; exact ⟨h2, h⟩
    · rw [if_neg h2] at h; exact absurd h h2
  · rw [if_neg h1] at h; exact absurd h h1
theorem Fnd.like {L : List KD} {B : List KF} {d : KD} (hd : InO ordD L d) (h : ∀ g ∈ d.2.2, Fnd L B g) : Fnd L B d.2.1 := by
  obtain ⟨d', hd', e⟩ := hd
  obtain ⟨e1, e2⟩ := ordD_zero e
  refine .step d' _ hd' e1 fun g hg => ?_
  obtain ⟨k, hk, e3⟩ := ordB_zero e2 g hg
  exact (h k hk).congr e3
theorem tmod_idx {n : Nat} (hn : 0 < n) (hb : n ≤ 1000000) (j : Int) : ∃ k : Nat, k < n ∧ Int.tmod (IntKind.wrap IntKind.i64 (Int.tmod j (n : Int) + (n : Int))) (n : Int) = (k : Int) := by
  have h1 : Int.tmod j (n : Int) < (n : Int) := Int.tmod_lt_of_pos _ (by omega)
  have h2 : -(n : Int) < Int.tmod j (n : Int) := by
    have := Int.lt_tmod_of_pos j (b := (n : Int)) (by omega)
    simpa using this
  obtain ⟨z, hz⟩ : ∃ z : Nat, Int.tmod j (n : Int) + (n : Int) = (z : Int) := ⟨(Int.tmod j (n : Int) + (n : Int)).toNat, by omega⟩
  have hw : IntKind.wrap IntKind.i64 (z : Int) = (z : Int) := by
    obtain ⟨y, rfl⟩ : ∃ y, z = y + 1 := ⟨z - 1, by omega⟩
    exact wrap_succ (show y < big by unfold big; omega)
  rw [hz, hw]
  refine ⟨z % n, Nat.mod_lt _ hn, ?_⟩
  rw [Int.tmod_eq_emod_of_nonneg (by omega)]
  omega
section
variable {n : Nat} (hn : 1000 < n)
include hn
theorem minusZ {b0 b2 : Bool} {r1 r3 : Rows} (hr : SmallL r1) (hr3 : SmallL r3) (hl : r1.length ≤ 500) (hl3 : r3.length ≤ 1000) :
    ∃ z rows, z36_v n b0 r1 b2 r3 = some ((z, rows), ()) ∧ (rows = [] ↔ ∀ g ∈ r1.map kr, InK (r3.map kr) g) := by
  obtain ⟨z, rows, e1, e2, e3, e4⟩ := refMinus_q hn (b0 := b0) (b2 := b2) hr hr3 hl hl3
  obtain ⟨u1, u2⟩ := minusK_ok (b := r3.map kr) (l := r1.map kr) (acc := []) List.Pairwise.nil
  rw [← e2] at u2
  refine ⟨z, rows, e1, ⟨fun h g hg => ?_, fun h => ?_⟩⟩
  · subst h
    exact Classical.byContradiction fun hc => by
      obtain ⟨k, hk, _⟩ := (u2 g).2 (.inr ⟨⟨g, hg, ordK_self _⟩, hc⟩)
      cases hk
  · cases rows with
    | nil => rfl
    | cons x rows =>
      exfalso
      rcases (u2 (kr x)).1 ⟨kr x, by simp, ordK_self _⟩ with ⟨k, hk, _⟩ | ⟨⟨g, hg, e⟩, hc⟩
      · cases hk
      · exact hc ((inK_congr e).1 (h g hg))
theorem firm16 {b0 b2 b29 b32 b34 b37 : Bool} {r1 r3 r30 r33 r35 r38 : Rows} {j4 : Int} {i0 j : Nat} (hj : j < 1000000) (h30 : SmallL r30) (hl30 : r30.length ≤ 1000) (h33 : SmallDs r33) (hl33 : r33.length ≤ 900) :
    ∀ k q : Nat, q + k = r33.length → ∀ f (why : Bool), k < f → (why = true ∨ ∃ r ∈ r33.drop q, ∀ g ∈ (dr r).2.2, InK (r30.map kr) g) →
    z19_l16 n b0 r1 b2 r3 j4 i0 f b29 r30 why b32 r33 b34 r35 true b37 r38 (q : Int) (j : Int) = z19_l11 n b0 r1 b2 r3 j4 i0 b29 r30 b34 r35 true b37 r38 ((j + 1 : Nat) : Int) := by
  intro k
  induction k with
  | zero =>
    intro q hq f why hf hw
    obtain ⟨f, rfl⟩ : ∃ z, f = z + 1 := ⟨f - 1, by omega⟩
    rw [List.drop_eq_nil_of_le (show r33.length ≤ q by omega)] at hw
    have hw' : why = true := hw.resolve_right fun ⟨r, hr, _⟩ => by cases hr
    subst hw'
    rw [z19_s16, wrap_succ (show j < big by unfold big; omega)]
    have g1 : ¬ ((q : Int) < (r33.length : Int)) := by omega
    simp only [g1, decide_false, cond_false, Bool.not_true]
  | succ k ih =>
    intro q hq f why hf hw
    obtain ⟨f, rfl⟩ : ∃ z, f = z + 1 := ⟨f - 1, by omega⟩
    have hlt : q < r33.length := by omega
    have g1 : (q : Int) < (r33.length : Int) := by omega
    have g0 : (0 : Int) ≤ (q : Int) := by omega
    rw [z19_s16, wrap_succ (show q < big by unfold big; omega)]
    cases why with
    | true =>
      simp only [g1, decide_true, cond_true]
      exact ih (q + 1) (by omega) f true (by omega) (.inl rfl)
    | false =>
      have hx := h33 _ (List.getElem_mem hlt)
      obtain ⟨z, rows, e1, e2⟩ := minusZ hn (b0 := Row.N r33[q] 5) (b2 := b29) (r1 := Row.R r33[q] 5) (r3 := r30) hx.2.2.1 h30 hx.2.2.2.1 hl30
      simp only [g1, g0, decide_true, cond_true, cond_false, if_true, Int.toNat_natCast, getD_get hlt, e1, obind_some]
      refine ih (q + 1) (by omega) f _ (by omega) ?_
      rcases hw with hw | ⟨r, hr, hg⟩
      · cases hw
      · rw [List.drop_eq_getElem_cons hlt] at hr
        rcases List.mem_cons.1 hr with rfl | hr
        · have := e2.2 hg
          subst this
          exact .inl rfl
        · exact .inr ⟨r, hr, hg⟩
theorem firm11 {b0 b2 b20 b22 b25 : Bool} {r1 r3 r21 r23 r26 : Rows} {j4 : Int} (h3 : SmallL r3) (hl3 : r3.length ≤ 1000) (h21 : SmallL r21) (hl21 : r21.length ≤ 1000) (h23 : SmallDs r23) (hl23 : r23.length ≤ 900)
    (hout : ∀ f, InK (r21.map kr) f ↔ Fnd (r23.map dr) (r3.map kr) f) : ∀ k q : Nat, q + k = r21.length → ∀ f, k < f →
    z19_l11 n b0 r1 b2 r3 j4 f b20 r21 b22 r23 true b25 r26 (q : Int) = z19_l22 n b0 r1 b2 r3 j4 n b20 r21 b22 r23 true b25 r26 0 := by
  intro k
  induction k with
  | zero =>
    intro q hq f hf
    obtain ⟨f, rfl⟩ : ∃ z, f = z + 1 := ⟨f - 1, by omega⟩
    rw [z19_s11]
    have g1 : ¬ ((q : Int) < (r21.length : Int)) := by omega
    simp only [g1, decide_false, cond_false]
  | succ k ih =>
    intro q hq f hf
    obtain ⟨f, rfl⟩ : ∃ z, f = z + 1 := ⟨f - 1, by omega⟩
    have hlt : q < r21.length := by omega
    have g1 : (q : Int) < (r21.length : Int) := by omega
    have g0 : (0 : Int) ≤ (q : Int) := by omega
    have hx := h21 _ (List.getElem_mem hlt)
    have hh := refHas_q hn (b0 := b2) (b5 := Row.N r21[q] 3) (r1 := r3) (r6 := Row.R r21[q] 3) (s2 := Row.S r21[q] 0) (s3 := Row.S r21[q] 1) (s4 := Row.S r21[q] 2) h3 hl3
    obtain ⟨b, rows, o1, o2, o3, o4⟩ := of_q hn (b3 := Row.N r21[q] 3) (b5 := b22) (r4 := Row.R r21[q] 3) (r6 := r23) (s0 := Row.S r21[q] 0) (s1 := Row.S r21[q] 1) (s2 := Row.S r21[q] 2) h23 hl23 hx.1
    rw [kr_eta] at hh o2
    rw [z19_s11]
    simp only [g1, g0, decide_true, cond_true, if_true, Int.toNat_natCast, getD_get hlt, hh, o1, obind_some]
    have hf1 : Fnd (r23.map dr) (r3.map kr) (kr r21[q]) := (hout _).1 ⟨kr r21[q], List.mem_map_of_mem (List.getElem_mem hlt), ordK_self _⟩
    have hw : hasK (kr r21[q]) (r3.map kr) = true ∨ ∃ r ∈ rows.drop 0, ∀ g ∈ (dr r).2.2, InK (r21.map kr) g := by
      cases hf1 with
      | base _ h => exact .inl (hasK_in.2 h)
      | step d _ hd he hg =>
        have hm : d ∈ rows.map dr := by
          rw [o2, List.mem_filter]
          exact ⟨hd, by unfold isOf; simpa using he⟩
        obtain ⟨r, hr, hdr⟩ := List.mem_map.1 hm
        refine .inr ⟨r, by simpa using hr, fun g hg' => ?_⟩
        rw [hdr] at hg'
        exact (hout g).2 (hg g hg')
    have := firm16 hn (b0 := b0) (b2 := b2) (b29 := b20) (b32 := b) (b34 := b22) (b37 := b25) (r1 := r1) (r3 := r3) (r30 := r21) (r33 := rows) (r35 := r23) (r38 := r26) (j4 := j4) (i0 := f) (j := q) (by omega) h21 hl21 o3 (by omega) rows.length 0 (by omega) n _ (by omega) hw
    rw [show ((0 : Nat) : Int) = 0 from rfl] at this
    rw [this]
    exact ih (q + 1) (by omega) f (by omega)
theorem firm6 {b0 b2 b11 b13 b16 : Bool} {r1 r3 r12 r14 r17 : Rows} {j4 : Int} (h12 : SmallL r12) (hl12 : r12.length ≤ 1000) (hl3 : r3.length ≤ 1000)
    (hout : ∀ f, InK (r3.map kr) f → InK (r12.map kr) f) : ∀ k q : Nat, q + k = r3.length → ∀ f, k < f →
    z19_l6 n b0 r1 b2 r3 j4 f b11 r12 b13 r14 true b16 r17 (q : Int) = z19_l11 n b0 r1 b2 r3 j4 n b11 r12 b13 r14 true b16 r17 0 := by
  intro k
  induction k with
  | zero =>
    intro q hq f hf
    obtain ⟨f, rfl⟩ : ∃ z, f = z + 1 := ⟨f - 1, by omega⟩
    rw [z19_s6]
    have g1 : ¬ ((q : Int) < (r3.length : Int)) := by omega
    simp only [g1, decide_false, cond_false]
  | succ k ih =>
    intro q hq f hf
    obtain ⟨f, rfl⟩ : ∃ z, f = z + 1 := ⟨f - 1, by omega⟩
    have hlt : q < r3.length := by omega
    have g1 : (q : Int) < (r3.length : Int) := by omega
    have g0 : (0 : Int) ≤ (q : Int) := by omega
    have hh := refHas_q hn (b0 := b11) (b5 := Row.N r3[q] 3) (r1 := r12) (r6 := Row.R r3[q] 3) (s2 := Row.S r3[q] 0) (s3 := Row.S r3[q] 1) (s4 := Row.S r3[q] 2) h12 hl12
    rw [kr_eta] at hh
    have ht : hasK (kr r3[q]) (r12.map kr) = true := hasK_in.2 (hout _ ⟨kr r3[q], List.mem_map_of_mem (List.getElem_mem hlt), ordK_self _⟩)
    rw [z19_s6, wrap_succ (show q < big by unfold big; omega)]
    simp only [g1, g0, decide_true, cond_true, if_true, Int.toNat_natCast, getD_get hlt, hh, ht, obind_some, Bool.not_true, cond_false]
    exact ih (q + 1) (by omega) f (by omega)
theorem firm22 {b0 b2 b39 b41 b44 : Bool} {r1 r3 r40 r42 r45 : Rows} {j4 : Int} (hn2 : 1064 ≤ n) (h1 : SmallDs r1) (hl1 : r1.length ≤ 400) (h3 : SmallL r3) (hl3 : r3.length ≤ 100) (h40 : SmallL r40) (hl40 : r40.length ≤ 300) (h42 : SmallDs r42) (hl42 : r42.length ≤ 200)
    (hst : Strict (r40.map kr)) (hout : ∀ f, InK (r40.map kr) f ↔ Fnd (r42.map dr) (r3.map kr) f) (hin : ∀ d ∈ r1.map dr, InO ordD (r42.map dr) d) : ∀ k q : Nat, q + k = r1.length → ∀ f, k < f →
    z19_l22 n b0 r1 b2 r3 j4 f b39 r40 b41 r42 true b44 r45 (q : Int) = some (true, ()) := by
  have hlive := live16 hn2
  have hlast : ∃ b r, z15_v n b39 r40 b41 r42 true = some ((b, r), (((b41, r42), (true, ())), ())) ∧ z40_v n b r b39 r40 = some (true, ()) := by
    obtain ⟨b, r, e1, e2, e3, e4, e5⟩ := founded_q hn (b0 := b39) (b2 := b41) (r1 := r40) (r3 := r42) h40 (by omega) h42 (by omega)
    refine ⟨b, r, e1, ?_⟩
    rw [z40_q (n := n) (b0 := b) (b2 := b39) (r1 := r) (r3 := r40) (by unfold big; omega) (by omega) (fun r hr => by have := (e4 r hr).1; unfold big; omega), likeF_likeK]
    rw [like_of e2 hst fun f => ?_]
    rw [e3 f]
    exact ⟨fun h => (hout f).2 (h.idem fun f => (hout f).1), fun h => .base f h⟩
  obtain ⟨bl, rl, l1, l2⟩ := hlast
  intro k
  induction k with
  | zero =>
    intro q hq f hf
    obtain ⟨f, rfl⟩ : ∃ z, f = z + 1 := ⟨f - 1, by omega⟩
    rw [z19_s22]
    have g1 : ¬ ((q : Int) < (r1.length : Int)) := by omega
    simp only [g1, decide_false, cond_false]
    by_cases hz : r3.length = 0
    · have g2 : ¬ (r3.length : Int) > 0 := by omega
      simp only [g2, decide_false, cond_false]
      refine obind_eq l1 (obind_eq l2 (cond_eqT rfl (obind_eq hlive rfl)))
    · have g2 : (r3.length : Int) > 0 := by omega
      have g3 : ¬ (r3.length : Int) = 0 := by omega
      obtain ⟨k, hk1, hk2⟩ := tmod_idx (n := r3.length) (by omega) (by omega) j4
      have g4 : (0 : Int) ≤ (k : Int) := by omega
      have g5 : (k : Int) ≤ (r3.length : Int) := by omega
      simp only [g2, g3, decide_true, cond_true, if_false, hk2, g4, g5, if_true, Int.toNat_natCast, List.drop_zero]
      have htk : SmallL (r3.take k) := fun r hr => h3 r (List.mem_of_mem_take hr)
      obtain ⟨b, r, e1, e2, e3, e4, e5⟩ := founded_q hn (b0 := b2) (b2 := b41) (r1 := r3.take k) (r3 := r42) htk (by rw [List.length_take]; omega) h42 (by omega)
      have hlr : r.length ≤ 500 := by rw [List.length_take] at e5; omega
      obtain ⟨z, rows, m1, m2⟩ := minusZ hn (b0 := b) (b2 := b39) (r1 := r) (r3 := r40) e4 h40 hlr (by omega)
      have hrows : rows = [] := m2.2 fun g hg => by
        have h5 := (e3 g).1 ⟨g, hg, ordK_self _⟩
        refine (hout g).2 (h5.mono (fun _ h => h) fun f hf => ?_)
        obtain ⟨x, hx, e⟩ := hf
        obtain ⟨y, hy, rfl⟩ := List.mem_map.1 hx
        exact ⟨kr y, List.mem_map_of_mem (List.mem_of_mem_take hy), e⟩
      subst hrows
      refine obind_eq e1 (obind_eq m1 (cond_eqF rfl (obind_eq l1 (obind_eq l2 (cond_eqT rfl (obind_eq hlive rfl))))))
  | succ k ih =>
    intro q hq f hf
    obtain ⟨f, rfl⟩ : ∃ z, f = z + 1 := ⟨f - 1, by omega⟩
    have hlt : q < r1.length := by omega
    have g1 : (q : Int) < (r1.length : Int) := by omega
    have g0 : (0 : Int) ≤ (q : Int) := by omega
    have hx := h1 _ (List.getElem_mem hlt)
    obtain ⟨z, rows, m1, m2⟩ := minusZ hn (b0 := Row.N r1[q] 5) (b2 := b39) (r1 := Row.R r1[q] 5) (r3 := r40) hx.2.2.1 h40 hx.2.2.2.1 (by omega)
    have hh := refHas_q hn (b0 := b39) (b5 := Row.N r1[q] 4) (r1 := r40) (r6 := Row.R r1[q] 4) (s2 := Row.S r1[q] 1) (s3 := Row.S r1[q] 2) (s4 := Row.S r1[q] 3) h40 (by omega)
    rw [z19_s22, wrap_succ (show q < big by unfold big; omega)]
    simp only [g1, g0, decide_true, cond_true, if_true, Int.toNat_natCast, getD_get hlt, m1, hh, obind_some]
    cases rows with
    | cons x rows =>
      have e : (((x :: rows).length : Int) == 0) = false := by simp; omega
      rw [e, cond_false]
      exact ih (q + 1) (by omega) f (by omega)
    | nil =>
      have e : ((([] : Rows).length : Int) == 0) = true := rfl
      have ht : hasK (kf (Row.S r1[q] 1) (Row.S r1[q] 2) (Row.S r1[q] 3) (Row.N r1[q] 4) (Row.R r1[q] 4)) (r40.map kr) = true := by
        refine hasK_in.2 ((hout _).2 ?_)
        have hd := hin (dr r1[q]) (List.mem_map_of_mem (List.getElem_mem hlt))
        exact Fnd.like hd fun g hg => (hout g).1 (m2.1 rfl g hg)
      rw [e, cond_true, ht, Bool.not_true, cond_false]
      exact ih (q + 1) (by omega) f (by omega)
end
theorem z19_pure (b0 : Bool) (r1 : Rows) (b2 : Bool) (r3 : Rows) (j4 : Int) (h1 : Fsl b0 kD r1) (h3 : Fsl b2 kF r3) (_h4 : (Lit.int .i64 j4).wf = true) : ∃ n, z19_v n b0 r1 b2 r3 j4 = some (true, ()) := by
  refine ⟨2000 + r1.length + r3.length + szD r1 + szF r3, ?_⟩
  generalize hN : 2000 + r1.length + r3.length + szD r1 + szF r3 = n
  have hn : 1000 < n := by omega
  have w1 : z29_v n b0 r1 200 = some (sumTo 200 (w16 200) r1 0, ()) := weight16_q (by omega) (by omega) h1.2.2.1 h1.1 (by omega) (szD_mem (by omega)) (by omega)
  have w3 : z28_v n b2 r3 100 = some (weight4 100 r3 0, ()) := weight4_q (by omega) (by omega) h3.2.2.1 h3.1 (fun r hr => by have := sum_rows r hr; unfold szF at hN; omega) (by omega)
  have hlive := live16 (n := n) (by omega)
  rw [z19_e, w1, obind_some]
  cases d1 : decide (sumTo 200 (w16 200) r1 0 > 200) with
  | true => rw [cond_true, hlive]; rfl
  | false =>
  rw [cond_false, w3, obind_some]
  cases d3 : decide (weight4 100 r3 0 > 100) with
  | true => rw [cond_true, hlive]; rfl
  | false =>
  rw [cond_false]
  have d1 := of_decide_eq_false d1
  have d3 := of_decide_eq_false d3
  obtain ⟨a1, l1⟩ := small16 (most := 200) (by omega) (by omega) h1.2.2.1 (by omega)
  obtain ⟨a3, l3⟩ := smallF_of (most := 100) (by omega) h3.2.2.1 (by omega)
  obtain ⟨b', r4, b9, r10, m1, m2, m3, m4, m5, m6, m7, m8⟩ := made_q hn (b0 := b0) a1 (by omega)
  obtain ⟨bo, ro, o1, o2, o3, o4, o5⟩ := founded_q hn (b0 := b2) (b2 := b') (r1 := r3) (r3 := r4) a3 (by omega) m4 (by omega)
  obtain ⟨k1, k2, _⟩ := insAll_ok (l := r1.map dr) (acc := []) List.Pairwise.nil
  refine obind_eq m1 (obind_eq o1 ?_)
  have f6 := firm6 hn (b0 := b0) (b2 := b2) (b11 := bo) (b13 := b') (b16 := b9) (r1 := r1) (r3 := r3) (r12 := ro) (r14 := r4) (r17 := r10) (j4 := j4) o4 (by omega) (by omega) (fun f hf => (o3 f).2 (.base f hf)) r3.length 0 (by omega) n (by omega)
  have f11 := firm11 hn (b0 := b0) (b2 := b2) (b20 := bo) (b22 := b') (b25 := b9) (r1 := r1) (r3 := r3) (r21 := ro) (r23 := r4) (r26 := r10) (j4 := j4) a3 (by omega) o4 (by omega) m4 (by omega) o3 ro.length 0 (by omega) n (by omega)
  have f22 := firm22 hn (b0 := b0) (b2 := b2) (b39 := bo) (b41 := b') (b44 := b9) (r1 := r1) (r3 := r3) (r40 := ro) (r42 := r4) (r45 := r10) (j4 := j4) (by omega) a1 (by omega) a3 (by omega) o4 (by omega) m4 (by omega) o2 o3 (fun d hd => by rw [m2]; exact (k2 d).2 (.inr ⟨d, hd, ordD_ord.self d⟩)) r1.length 0 (by omega) n (by omega)
  exact f6.trans (f11.trans f22)
end Go.Den
