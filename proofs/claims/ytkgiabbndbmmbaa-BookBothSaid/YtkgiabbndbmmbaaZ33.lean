import Derived.Test.YtkgiabbndbmmbaaZ32
import Derived.Test.YtkgiabbndbmmbaaZ31
set_option linter.unusedVariables false
set_option linter.unusedSimpArgs false
set_option linter.unusedSectionVars false
namespace Go.Den
open Go.Proofs
def sumOf (L : List KD) : List KF → Nat
  | [] => 0
  | h :: l => (L.filter (isOf h)).length + sumOf L l
theorem one_of {f : KF} : ∀ {l : List KF}, Strict l → InK l f → (l.countP fun h => ordK f h == 0) = 1
  | [], _, ⟨k, hk, _⟩ => by cases hk
  | k :: l, hs, h => by
    have h1 := List.pairwise_cons.1 hs
    rw [List.countP_cons]
    by_cases hk : ordK f k = 0
    · have e : (ordK f k == 0) = true := by simpa using hk
      have h0 : l.countP (fun h => ordK f h == 0) = 0 := by
        rw [List.countP_eq_zero]
        intro q hq hz
        have hz' : ordK f q = 0 := by simpa using hz
        have h2 := h1.1 q hq
        have h3 := ordK_eq (ordK_sym hk) hz'
        omega
      rw [h0, e]; rfl
    · have e : (ordK f k == 0) = false := by simpa using hk
      rw [one_of h1.2 ?_, e]; rfl
      obtain ⟨q, hq, e2⟩ := h
      rcases List.mem_cons.1 hq with rfl | hq
      · exact absurd (ordK_sym e2) hk
      · exact ⟨q, hq, e2⟩
theorem sumOf_nil : ∀ hs : List KF, sumOf [] hs = 0
  | [] => rfl
  | h :: l => by unfold sumOf; rw [sumOf_nil l]; rfl
theorem sumOf_cons (d : KD) (L : List KD) : ∀ hs : List KF, sumOf (d :: L) hs = (hs.countP fun h => ordK d.2.1 h == 0) + sumOf L hs
  | [] => rfl
  | h :: l => by
    unfold sumOf
    rw [sumOf_cons d L l, List.filter_cons, List.countP_cons]
    unfold isOf
    cases hc : (ordK d.2.1 h == 0) with
    | true => simp only [if_true, List.length_cons]; omega
    | false => simp only [Bool.false_eq_true, if_false]; omega
theorem sumOf_all {hs : List KF} (h : Strict hs) : ∀ {L : List KD}, (∀ d ∈ L, InK hs d.2.1) → sumOf L hs = L.length
  | [], _ => sumOf_nil hs
  | d :: L, hi => by
    rw [sumOf_cons, one_of h (hi d List.mem_cons_self), sumOf_all h fun x hx => hi x (List.mem_cons_of_mem _ hx), List.length_cons]
    omega
section
variable {n : Nat} (hn : 1000 < n)
include hn
theorem both20 {b0 b45 b48 b50 b52 b55 : Bool} {r1 r46 r49 r51 r53 r56 : Rows} {i0 i1 i2 : Nat} {j44 j47 : Int} {j j67 : Nat} (hj : j < r49.length) (hj67 : j67 < 1000000) (h51 : SmallDs r51) (hl51 : r51.length ≤ 900) :
    ∀ k q : Nat, q + k = r51.length → ∀ f (met : Bool), k < f → (met = true ∨ ∃ u ∈ r51.drop q, ordD (dr u) (dr r49[j]) = 0) →
    z20_l20 n b0 r1 i0 i1 i2 f j44 b45 r46 j47 b48 r49 b50 r51 b52 r53 true b55 r56 (j : Int) met (q : Int) (j67 : Int) = z20_l15 n b0 r1 i0 i1 i2 j44 b45 r46 b48 r49 b52 r53 true b55 r56 j47 (j : Int) ((j67 + 1 : Nat) : Int) := by
  intro k
  induction k with
  | zero =>
    intro q hq f met hf hm
    obtain ⟨f, rfl⟩ : ∃ z, f = z + 1 := ⟨f - 1, by omega⟩
    rw [List.drop_eq_nil_of_le (show r51.length ≤ q by omega)] at hm
    have hm' : met = true := hm.resolve_right fun ⟨u, hu, _⟩ => by cases hu
    subst hm'
    rw [z20_s20, wrap_succ (show j67 < big by unfold big; omega)]
    have g1 : ¬ ((q : Int) < (r51.length : Int)) := by omega
    simp only [g1, decide_false, cond_false, Bool.not_true]
  | succ k ih =>
    intro q hq f met hf hm
    obtain ⟨f, rfl⟩ : ∃ z, f = z + 1 := ⟨f - 1, by omega⟩
    have hlt : q < r51.length := by omega
    have g1 : (q : Int) < (r51.length : Int) := by omega
    have g0 : (0 : Int) ≤ (q : Int) := by omega
    rw [z20_s20, wrap_succ (show q < big by unfold big; omega)]
    cases met with
    | true =>
      simp only [g1, decide_true, cond_true]
      exact ih (q + 1) (by omega) f true (by omega) (.inl rfl)
    | false =>
      have hx := h51 _ (List.getElem_mem hlt)
      have hc := refCompare_q hn (j0 := Row.I r51[q] 0) (j8 := Row.I r49[j] 0) (s1 := Row.S r51[q] 1) (s2 := Row.S r51[q] 2) (s3 := Row.S r51[q] 3) (s9 := Row.S r49[j] 1) (s10 := Row.S r49[j] 2) (s11 := Row.S r49[j] 3) (b4 := Row.N r51[q] 4) (b6 := Row.N r51[q] 5) (b12 := Row.N r49[j] 4) (b14 := Row.N r49[j] 5) (r5 := Row.R r51[q] 4) (r7 := Row.R r51[q] 5) (r13 := Row.R r49[j] 4) (r15 := Row.R r49[j] 5) hx.1 hx.2.2.1 hx.2.2.2.1
      have g2 : (j : Int) < (r49.length : Int) := by omega
      have g3 : (0 : Int) ≤ (j : Int) := by omega
      simp only [g1, g0, g2, g3, decide_true, cond_true, cond_false, if_true, Int.toNat_natCast, getD_get hlt, getD_get hj, hc, obind_some]
      refine ih (q + 1) (by omega) f _ (by omega) ?_
      rcases hm with hm | ⟨u, hu, e⟩
      · cases hm
      · rw [List.drop_eq_getElem_cons hlt] at hu
        rcases List.mem_cons.1 hu with rfl | hu
        · refine .inl ?_
          have e' : ordD (Row.I r51[q] 0, kf (Row.S r51[q] 1) (Row.S r51[q] 2) (Row.S r51[q] 3) (Row.N r51[q] 4) (Row.R r51[q] 4), (Row.R r51[q] 5).map kr) (Row.I r49[j] 0, kf (Row.S r49[j] 1) (Row.S r49[j] 2) (Row.S r49[j] 3) (Row.N r49[j] 4) (Row.R r49[j] 4), (Row.R r49[j] 5).map kr) = 0 := e
          rw [e']; rfl
        · exact .inr ⟨u, hu, e⟩
theorem both15 {b0 b27 b29 b31 b34 : Bool} {r1 r28 r30 r32 r35 : Rows} {i0 i1 : Nat} {j26 j42 : Int} {j : Nat} (hj : j < r30.length) (hj2 : j < 1000000) (h30 : SmallDs r30) (h32 : SmallDs r32) (hl32 : r32.length ≤ 900) (hin : dr r30[j] ∈ r32.map dr) :
    ∀ k q : Nat, q + k = (Row.R r30[j] 5).length → ∀ f, k < f →
    z20_l15 n b0 r1 i0 i1 f j26 b27 r28 b29 r30 b31 r32 true b34 r35 j42 (j : Int) (q : Int) = z20_l12 n b0 r1 i0 i1 j26 b27 r28 b29 r30 b31 r32 true b34 r35 j42 ((j + 1 : Nat) : Int) := by
  have hx := h30 _ (List.getElem_mem hj)
  have g2 : (j : Int) < (r30.length : Int) := by omega
  have g3 : (0 : Int) ≤ (j : Int) := by omega
  intro k
  induction k with
  | zero =>
    intro q hq f hf
    obtain ⟨f, rfl⟩ : ∃ z, f = z + 1 := ⟨f - 1, by omega⟩
    rw [z20_s15, wrap_succ (show j < big by unfold big; omega)]
    simp only [g2, g3, if_true, Int.toNat_natCast, getD_get hj]
    have g1 : ¬ ((q : Int) < ((Row.R r30[j] 5).length : Int)) := by omega
    simp only [g1, decide_false, cond_false]
  | succ k ih =>
    intro q hq f hf
    obtain ⟨f, rfl⟩ : ∃ z, f = z + 1 := ⟨f - 1, by omega⟩
    have hlt : q < (Row.R r30[j] 5).length := by omega
    have hxl := hx.2.2.2.1
    have g1 : (q : Int) < ((Row.R r30[j] 5).length : Int) := by omega
    have g0 : (0 : Int) ≤ (q : Int) := by omega
    have hg := hx.2.2.1 _ (List.getElem_mem hlt)
    obtain ⟨b, rows, o1, o2, o3, o4⟩ := uses_q hn (b3 := Row.N (Row.R r30[j] 5)[q] 3) (b5 := b31) (r4 := Row.R (Row.R r30[j] 5)[q] 3) (r6 := r32) (s0 := Row.S (Row.R r30[j] 5)[q] 0) (s1 := Row.S (Row.R r30[j] 5)[q] 1) (s2 := Row.S (Row.R r30[j] 5)[q] 2) h32 hl32 hg.1
    rw [kr_eta] at o2
    rw [z20_s15]
    simp only [g2, g3, g1, g0, decide_true, cond_true, if_true, Int.toNat_natCast, getD_get hj, getD_get hlt, o1, obind_some]
    have hm : ∃ u ∈ rows.drop 0, ordD (dr u) (dr r30[j]) = 0 := by
      have hmem : dr r30[j] ∈ rows.map dr := by
        rw [o2, List.mem_filter]
        exact ⟨hin, hasK_in.2 ⟨kr (Row.R r30[j] 5)[q], List.mem_map_of_mem (List.getElem_mem hlt), ordK_self _⟩⟩
      obtain ⟨u, hu, e⟩ := List.mem_map.1 hmem
      exact ⟨u, by simpa using hu, by rw [e]; exact ordD_ord.self _⟩
    have := both20 hn (b0 := b0) (b45 := b27) (b48 := b29) (b50 := b) (b52 := b31) (b55 := b34) (r1 := r1) (r46 := r28) (r49 := r30) (r51 := rows) (r53 := r32) (r56 := r35) (i0 := i0) (i1 := i1) (i2 := f) (j44 := j26) (j47 := j42) (j := j) (j67 := q) hj (by omega) o3 (by omega) rows.length 0 (by omega) n false (by omega) (.inr hm)
    rw [show ((0 : Nat) : Int) = 0 from rfl] at this
    rw [this]
    exact ih (q + 1) (by omega) f (by omega)
theorem both12 {b0 b17 b19 b21 b24 : Bool} {r1 r18 r20 r22 r25 : Rows} {i0 : Nat} {j16 : Int} {j41 : Nat} (hj : j41 < 1000000) (h20 : SmallDs r20) (hl20 : r20.length ≤ 900) (h22 : SmallDs r22) (hl22 : r22.length ≤ 900) (hin : ∀ d ∈ r20.map dr, d ∈ r22.map dr) :
    ∀ k q : Nat, q + k = r20.length → ∀ f, k < f →
    z20_l12 n b0 r1 i0 f j16 b17 r18 b19 r20 b21 r22 true b24 r25 (j41 : Int) (q : Int) = z20_l7 n b0 r1 i0 b17 r18 b21 r22 true b24 r25 j16 ((j41 + 1 : Nat) : Int) := by
  intro k
  induction k with
  | zero =>
    intro q hq f hf
    obtain ⟨f, rfl⟩ : ∃ z, f = z + 1 := ⟨f - 1, by omega⟩
    rw [z20_s12, wrap_succ (show j41 < big by unfold big; omega)]
    have g1 : ¬ ((q : Int) < (r20.length : Int)) := by omega
    simp only [g1, decide_false, cond_false]
  | succ k ih =>
    intro q hq f hf
    obtain ⟨f, rfl⟩ : ∃ z, f = z + 1 := ⟨f - 1, by omega⟩
    have hlt : q < r20.length := by omega
    have hxl := (h20 _ (List.getElem_mem hlt)).2.2.2.1
    have g1 : (q : Int) < (r20.length : Int) := by omega
    rw [z20_s12]
    simp only [g1, decide_true, cond_true]
    have := both15 hn (b0 := b0) (b27 := b17) (b29 := b19) (b31 := b21) (b34 := b24) (r1 := r1) (r28 := r18) (r30 := r20) (r32 := r22) (r35 := r25) (i0 := i0) (i1 := f) (j26 := j16) (j42 := (j41 : Int)) (j := q) hlt (by omega) h20 h22 hl22 (hin _ (List.mem_map_of_mem (List.getElem_mem hlt))) (Row.R r20[q] 5).length 0 (by omega) n (by omega)
    rw [show ((0 : Nat) : Int) = 0 from rfl] at this
    rw [this]
    exact ih (q + 1) (by omega) f (by omega)
theorem both7 {b0 b6 b8 b11 : Bool} {r1 r7 r9 r12 : Rows} (hn2 : 1064 ≤ n) (h7 : SmallL r7) (hl7 : r7.length ≤ 900) (h9 : SmallDs r9) (hl9 : r9.length ≤ 900) :
    ∀ k q : Nat, q + k = r7.length → ∀ f (z : Nat), k < f → z + sumOf (r9.map dr) ((r7.drop q).map kr) = r9.length →
    z20_l7 n b0 r1 f b6 r7 b8 r9 true b11 r12 (z : Int) (q : Int) = some (true, ()) := by
  have hlive := live16 hn2
  intro k
  induction k with
  | zero =>
    intro q hq f z hf hz
    obtain ⟨f, rfl⟩ : ∃ z, f = z + 1 := ⟨f - 1, by omega⟩
    rw [List.drop_eq_nil_of_le (show r7.length ≤ q by omega)] at hz
    have hz' : z = r9.length := hz
    rw [z20_s7, z23_e, z15_e]
    have g1 : ¬ ((q : Int) < (r7.length : Int)) := by omega
    have e0 : (!Row.B ([DV.sl b8 [Kd.i IntKind.i64, Kd.s, Kd.s, Kd.s, Kd.sl [Kd.b, Kd.i IntKind.i64, Kd.s], Kd.sl [Kd.s, Kd.s, Kd.s, Kd.sl [Kd.b, Kd.i IntKind.i64, Kd.s]]] r9, DV.val (Value.bool true)]) 1) = false := rfl
    have e1 : ((z : Int) == (r9.length : Int)) = true := by rw [hz']; simp
    simp only [g1, decide_false, cond_false, obind_some, e0, e1, cond_true, hlive]
  | succ k ih =>
    intro q hq f z hf hz
    obtain ⟨f, rfl⟩ : ∃ z, f = z + 1 := ⟨f - 1, by omega⟩
    have hlt : q < r7.length := by omega
    have g1 : (q : Int) < (r7.length : Int) := by omega
    have g0 : (0 : Int) ≤ (q : Int) := by omega
    have hx := h7 _ (List.getElem_mem hlt)
    obtain ⟨b, rows, o1, o2, o3, o4⟩ := of_q hn (b3 := Row.N r7[q] 3) (b5 := b8) (r4 := Row.R r7[q] 3) (r6 := r9) (s0 := Row.S r7[q] 0) (s1 := Row.S r7[q] 1) (s2 := Row.S r7[q] 2) h9 hl9 hx.1
    rw [kr_eta] at o2
    rw [List.drop_eq_getElem_cons hlt, List.map_cons] at hz
    unfold sumOf at hz
    have hlen : rows.length = ((r9.map dr).filter (isOf (kr r7[q]))).length := by rw [← o2, List.length_map]
    rw [z20_s7]
    simp only [g1, g0, decide_true, cond_true, if_true, Int.toNat_natCast, getD_get hlt, o1, obind_some]
    have hw : IntKind.wrap IntKind.i64 ((z : Int) + (rows.length : Int)) = ((z + rows.length : Nat) : Int) := by
      rw [wrap_small (by omega) (by omega)]; omega
    rw [hw]
    have := both12 hn (b0 := b0) (b17 := b6) (b19 := b) (b21 := b8) (b24 := b11) (r1 := r1) (r18 := r7) (r20 := rows) (r22 := r9) (r25 := r12) (i0 := f) (j16 := ((z + rows.length : Nat) : Int)) (j41 := q) (by omega) o3 (by omega) h9 hl9 (fun d hd => by rw [o2, List.mem_filter] at hd; exact hd.1) rows.length 0 (by omega) n (by omega)
    rw [show ((0 : Nat) : Int) = 0 from rfl] at this
    rw [this]
    exact ih (q + 1) (by omega) f (z + rows.length) (by omega) (by omega)
end
theorem z20_pure (b0 : Bool) (r1 : Rows) (h1 : Fsl b0 kD r1) : ∃ n, z20_v n b0 r1 = some (true, ()) := by
  refine ⟨2000 + r1.length + szD r1, ?_⟩
  generalize hN : 2000 + r1.length + szD r1 = n
  have hn : 1000 < n := by omega
  have w1 : z29_v n b0 r1 300 = some (sumTo 300 (w16 300) r1 0, ()) := weight16_q (by omega) (by omega) h1.2.2.1 h1.1 (by omega) (szD_mem (by omega)) (by omega)
  have hlive := live16 (n := n) (by omega)
  rw [z20_e, w1, obind_some]
  cases d1 : decide (sumTo 300 (w16 300) r1 0 > 300) with
  | true => rw [cond_true, hlive]; rfl
  | false =>
  rw [cond_false]
  have d1 := of_decide_eq_false d1
  obtain ⟨a1, l1⟩ := small16 (most := 300) (by omega) (by omega) h1.2.2.1 (by omega)
  obtain ⟨b', r4, b9, r10, m1, m2, m3, m4, m5, m6, m7, m8⟩ := made_q hn (b0 := b0) a1 (by omega)
  obtain ⟨bh, rh, e1, e2, e3, e4⟩ := heads_q hn (b0 := b') (r1 := r4) m4 (by omega)
  have hsum : 0 + sumOf (r4.map dr) ((rh.drop 0).map kr) = r4.length := by
    rw [List.drop_zero, sumOf_all e2.strict fun d hd => ?_, List.length_map]; omega
    obtain ⟨x, hx, rfl⟩ := List.mem_map.1 hd
    exact (e2.inK _).2 ⟨(dr x).2.1, List.mem_map_of_mem (f := fun r => (dr r).2.1) hx, ordK_self _⟩
  have := both7 hn (b0 := b0) (b6 := bh) (b8 := b') (b11 := b9) (r1 := r1) (r7 := rh) (r9 := r4) (r12 := r10) (by omega) e4 (by omega) m4 (by omega) rh.length 0 (by omega) n 0 (by omega) hsum
  exact obind_eq m1 (obind_eq e1 this)
end Go.Den
