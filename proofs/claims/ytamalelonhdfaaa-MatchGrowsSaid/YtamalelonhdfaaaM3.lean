import Derived.Test.YtamalelonhdfaaaM2
set_option linter.unusedVariables false
set_option linter.unusedSimpArgs false
set_option linter.unusedSectionVars false
/- What is light; MatchLiterals. -/
namespace Go.Den
open Go.Proofs
theorem match_live (k : Nat) : law11_live_v (k + 64) = some (true, ()) := by kernel_rfl
theorem mlive_at {n : Nat} (h : 64 ≤ n) : law11_live_v n = some (true, ()) := by
  obtain ⟨k, rfl⟩ : ∃ k, n = k + 64 := ⟨n - 64, by omega⟩
  exact match_live k
def eqBind (a b : Row) : Bool := Row.S a 0 == Row.S b 0 && (Row.B a 1 == Row.B b 1 && (Row.I a 2 == Row.I b 2 && (Row.S a 3 == Row.S b 3 && true)))
def like : Rows → Rows → Bool
  | [], [] => true
  | a :: l, b :: m => eqBind a b && like l m
  | _, _ => false
theorem like_len : ∀ {a b : Rows}, like a b = true → a.length = b.length
  | [], [], _ => rfl
  | _ :: l, _ :: m, h => by simp only [like, Bool.and_eq_true] at h; simp [like_len h.2]
  | [], _ :: _, h => by simp [like] at h
  | _ :: _, [], h => by simp [like] at h
theorem like_refl : ∀ a : Rows, like a a = true
  | [] => rfl
  | r :: l => by simp [like, eqBind, like_refl l]
theorem ref11_Like_loop {n : Nat} {b0 b2 : Bool} {r1 r3 : Rows} (hb : r1.length < big) (hl : r1.length = r3.length) : ∀ k j : Nat, j + k = r1.length → ∀ i, k < i → ref11_Like_l4 n b0 r1 b2 r3 i (j : Int) = some (like (r1.drop j) (r3.drop j), ()) := by
  intro k
  induction k with
  | zero =>
    intro j hj i hi
    obtain ⟨i, rfl⟩ : ∃ z, i = z + 1 := ⟨i - 1, by omega⟩
    rw [ref11_Like_s4, List.drop_eq_nil_of_le (by omega), List.drop_eq_nil_of_le (by omega)]
    have h1 : ¬ ((j : Int) < (r1.length : Int)) := by omega
    simp only [h1, decide_false, cond_false, like]
  | succ k ih =>
    intro j hj i hi
    obtain ⟨i, rfl⟩ : ∃ z, i = z + 1 := ⟨i - 1, by omega⟩
    have hlt : j < r1.length := by omega
    have hlt2 : j < r3.length := by omega
    rw [ref11_Like_s4, List.drop_eq_getElem_cons hlt, List.drop_eq_getElem_cons hlt2]
    have h1 : (j : Int) < (r1.length : Int) := by omega
    have h2 : (j : Int) < (r3.length : Int) := by omega
    have h0 : (0 : Int) ≤ (j : Int) := by omega
    rw [wrap_succ (by omega), ih (j + 1) (by omega) i (by omega)]
    simp only [h1, h2, h0, decide_true, cond_true, if_true, Int.toNat_natCast, getD_get hlt, getD_get hlt2, like]
    cases hc : (Row.S r1[j] 0 == Row.S r3[j] 0 && (Row.B r1[j] 1 == Row.B r3[j] 1 && (Row.I r1[j] 2 == Row.I r3[j] 2 && (Row.S r1[j] 3 == Row.S r3[j] 3 && true)))) with
    | true => simp only [Bool.not_true, cond_false, eqBind, hc, Bool.true_and]
    | false => simp only [Bool.not_false, cond_true, eqBind, hc, Bool.false_and]
theorem ref11_Like_q {n : Nat} {b0 b2 : Bool} {r1 r3 : Rows} (hb : r1.length < big) (hn : r1.length < n) : ref11_Like_v n b0 r1 b2 r3 = some (like r1 r3, ()) := by
  rw [ref11_Like_e]
  by_cases hl : r1.length = r3.length
  · have h1 : ((r1.length : Int) != (r3.length : Int)) = false := by simp [hl]
    rw [h1]
    exact ref11_Like_loop hb hl r1.length 0 (by omega) n hn
  · have h1 : ((r1.length : Int) != (r3.length : Int)) = true := by simp; omega
    rw [h1]
    cases h : like r1 r3 with
    | false => rfl
    | true => exact absurd (like_len h) hl
section
variable {n : Nat} {s0 s3 s4 s7 s10 : ByteArray} {b1 b5 b8 b11 b13 b15 : Bool} {j2 j9 : Int} {r6 r12 r14 r16 : Rows}
@[reducible] def ruleRow (s0 : ByteArray) (b1 : Bool) (j2 : Int) (s3 s4 : ByteArray) (b5 : Bool) (r6 : Rows) (s7 : ByteArray) (b8 : Bool) (j9 : Int) (s10 : ByteArray) (b11 : Bool) (r12 : Rows) : Row :=
  [DV.val (Value.string s0), DV.val (Value.bool b1), DV.val (Value.int IntKind.i64 j2), DV.val (Value.string s3), DV.val (Value.string s4), DV.sl b5 [Kd.s, Kd.b, Kd.i IntKind.i64, Kd.s] r6, DV.val (Value.string s7), DV.val (Value.bool b8), DV.val (Value.int IntKind.i64 j9), DV.val (Value.string s10), DV.sl b11 [Kd.s, Kd.b, Kd.i IntKind.i64, Kd.s, Kd.s, Kd.sl [Kd.s, Kd.b, Kd.i IntKind.i64, Kd.s], Kd.s, Kd.b, Kd.i IntKind.i64, Kd.s] r12]
structure RuleFine (s0 : ByteArray) (j2 : Int) (s3 s4 : ByteArray) (b5 : Bool) (r6 : Rows) (s7 : ByteArray) (j9 : Int) (s10 : ByteArray) (b11 : Bool) (r12 : Rows) : Prop where
  h0 : s0.size ≤ reachBytes
  h2 : (Lit.int .i64 j2).wf = true
  h3 : s3.size ≤ reachBytes
  h4 : s4.size ≤ reachBytes
  h6 : Fsl b5 kT r6
  h7 : s7.size ≤ reachBytes
  h9 : (Lit.int .i64 j9).wf = true
  h10 : s10.size ≤ reachBytes
  h12 : Fsl b11 kL r12
theorem ruleFine_rows (h : RuleFine s0 j2 s3 s4 b5 r6 s7 j9 s10 b11 r12) : RowsFine kR [ruleRow s0 b1 j2 s3 s4 b5 r6 s7 b8 j9 s10 b11 r12] :=
  ⟨rfl, ⟨h.h0, trivial, h.h2, h.h3, h.h4, h.h6, h.h7, trivial, h.h9, h.h10, h.h12, trivial⟩, trivial⟩
theorem light_q (hr : RuleFine s0 j2 s3 s4 b5 r6 s7 j9 s10 b11 r12) (hf : RowsFine kF r14) (hfl : r14.length ≤ reachBytes) (hn : r12.length < n) (hn2 : ∀ r ∈ r14, (Row.R r 3).length < n) (hn3 : r14.length < n) (hn1 : 1 < n) :
    ∃ b, law11_light_v n s0 b1 j2 s3 s4 b5 r6 s7 b8 j9 s10 b11 r12 b13 r14 b15 r16 = some (b, ()) ∧ (b = true → r6.length ≤ 200 ∧ r12.length ≤ 200 ∧ (∀ q ∈ r12, (Row.R q 5).length ≤ 200) ∧ r14.length ≤ 200 ∧ (∀ r ∈ r14, (Row.R r 3).length ≤ 200) ∧ r16.length ≤ 200) := by
  rw [law11_light_e]
  have h5 := ruleFine_rows (b1 := b1) (b8 := b8) hr
  have w5 := weight5_q (n := n) (b0 := false) (most := 200) (by omega) (by omega) h5 (by simp [reachBytes]) (fun r hr' => by
    rcases List.mem_singleton.1 hr' with rfl
    exact hn) (by simpa using hn1)
  have w4 := weight4_q (n := n) (b0 := b13) (most := 200) (by omega) (by omega) hf hfl hn2 hn3
  simp only [w5, w4, obind_some]
  by_cases c1 : weight5 200 [ruleRow s0 b1 j2 s3 s4 b5 r6 s7 b8 j9 s10 b11 r12] 0 ≤ 200
  · have a5 := weight5_all _ 0 h5 (by omega) c1
    obtain ⟨d1, d2, d3⟩ := a5.2 _ (List.mem_singleton.2 rfl)
    simp only [c1, decide_true, cond_true]
    by_cases c2 : weight4 200 r14 0 ≤ 200
    · have a4 := weight4_all _ 0 hf (by omega) c2
      simp only [c2, decide_true, cond_true]
      refine ⟨_, rfl, fun hb => ?_⟩
      have hb := of_decide_eq_true hb
      have d1' : (r6.length : Int) ≤ 200 := d1
      have d2' : (r12.length : Int) ≤ 200 := d2
      refine ⟨by omega, by omega, fun q hq => ?_, by omega, fun r hr' => ?_, by omega⟩
      · have := d3 q hq; omega
      · have := a4.2 r hr'; omega
    · simp only [c2, decide_false, cond_false]
      exact ⟨false, rfl, fun h => by cases h⟩
  · simp only [c1, decide_false, cond_false]
    exact ⟨false, rfl, fun h => by cases h⟩
end
theorem factRow_fine {s14 s15 s16 : ByteArray} {b : Bool} {r : Rows} (h1 : s14.size ≤ reachBytes) (h2 : s15.size ≤ reachBytes) (h3 : s16.size ≤ reachBytes) (h4 : Fsl b kC r) (l : Rows) (hl : RowsFine kF l) :
    RowsFine kF ([DV.val (Value.string s14), DV.val (Value.string s15), DV.val (Value.string s16), DV.sl b [Kd.b, Kd.i IntKind.i64, Kd.s] r] :: l) := ⟨rfl, ⟨h1, h2, h3, h4, trivial⟩, hl⟩
theorem law11_MatchLiterals_pure (s0 : ByteArray) (b1 : Bool) (j2 : Int) (s3 s4 : ByteArray) (b5 : Bool) (r6 : Rows) (s7 : ByteArray) (b8 : Bool) (j9 : Int) (s10 : ByteArray) (b11 : Bool) (r12 : Rows) (s13 s14 s15 : ByteArray) (b16 : Bool) (r17 : Rows) (b18 : Bool) (r19 : Rows)
    (h0 : s0.size ≤ reachBytes) (h2 : (Lit.int .i64 j2).wf = true) (h3 : s3.size ≤ reachBytes) (h4 : s4.size ≤ reachBytes) (h6 : Fsl b5 kT r6) (h7 : s7.size ≤ reachBytes) (h9 : (Lit.int .i64 j9).wf = true) (h10 : s10.size ≤ reachBytes) (h12 : Fsl b11 kL r12)
    (h13 : s13.size ≤ reachBytes) (h14 : s14.size ≤ reachBytes) (h15 : s15.size ≤ reachBytes) (h17 : Fsl b16 kC r17) (h19 : Fsl b18 kT r19) : ∃ n, law11_MatchLiterals_v n s0 b1 j2 s3 s4 b5 r6 s7 b8 j9 s10 b11 r12 s13 s14 s15 b16 r17 b18 r19 = some (true, ()) := by
  refine ⟨1000000 + r12.length + r17.length, ?_⟩
  generalize hN : 1000000 + r12.length + r17.length = n
  rw [law11_MatchLiterals_e]
  have hfr := factRow_fine h13 h14 h15 h17 [] trivial
  obtain ⟨b, hb, hl⟩ := light_q (n := n) (b1 := b1) (b8 := b8) (b13 := false) (b15 := b18) (r16 := r19) ⟨h0, h2, h3, h4, h6, h7, h9, h10, h12⟩ hfr (by simp [reachBytes]) (by omega)
    (fun r hr' => by rcases List.mem_singleton.1 hr' with rfl; show r17.length < n; omega) (by simp; omega) (by omega)
  rw [hb]
  simp only [obind_some, mlive_at (n := n) (by omega)]
  cases b with
  | false => rfl
  | true =>
  obtain ⟨g1, g2, g3, _, _, g6⟩ := hl rfl
  simp only [Bool.not_true, cond_false]
  cases h0' : (r12.length : Int) == 0 with
  | true => rfl
  | false =>
  have hpos : 0 < r12.length := by
    have : ¬ (r12.length : Int) = 0 := by simpa using h0'
    omega
  have hpos' : (0 : Int) < (r12.length : Int) := by omega
  have ha := g3 _ (getD_mem hpos)
  simp only [cond_false, hpos', if_true]
  obtain ⟨nl1, e1, _⟩ := match_Literal_q (n := n) (s0 := s0) (b1 := b1) (j2 := j2) (s3 := s3) (s4 := Row.S (r12.getD 0 []) 0) (b5 := Row.B (r12.getD 0 []) 1) (j6 := Row.I (r12.getD 0 []) 2) (s7 := Row.S (r12.getD 0 []) 3) (s8 := Row.S (r12.getD 0 []) 4) (b9 := Row.N (r12.getD 0 []) 5) (r10 := Row.R (r12.getD 0 []) 5) (s11 := Row.S (r12.getD 0 []) 6) (b12 := Row.B (r12.getD 0 []) 7) (j13 := Row.I (r12.getD 0 []) 8) (s14 := Row.S (r12.getD 0 []) 9) (s15 := s13) (s16 := s14) (s17 := s15) (b18 := b16) (r19 := r17) (b20 := b18) (r21 := r19) (by omega) (by omega) (by omega) h19.2.1
  obtain ⟨nl2, e2⟩ := ref_Literal_q (n := n) (s0 := s0) (b1 := b1) (j2 := j2) (s3 := s3) (s4 := Row.S (r12.getD 0 []) 0) (b5 := Row.B (r12.getD 0 []) 1) (j6 := Row.I (r12.getD 0 []) 2) (s7 := Row.S (r12.getD 0 []) 3) (s8 := Row.S (r12.getD 0 []) 4) (b9 := Row.N (r12.getD 0 []) 5) (r10 := Row.R (r12.getD 0 []) 5) (s11 := Row.S (r12.getD 0 []) 6) (b12 := Row.B (r12.getD 0 []) 7) (j13 := Row.I (r12.getD 0 []) 8) (s14 := Row.S (r12.getD 0 []) 9) (s15 := s13) (s16 := s14) (s17 := s15) (b18 := b16) (r19 := r17) (b20 := b18) (r21 := r19) (by omega) (by omega) (by omega)
  rw [e1, e2]
  simp only [obind_some]
  cases hy : lit (s0, b1, j2, s3) (Row.S (r12.getD 0 []) 0, Row.B (r12.getD 0 []) 1, Row.I (r12.getD 0 []) 2, Row.S (r12.getD 0 []) 3) (Row.S (r12.getD 0 []) 6, Row.B (r12.getD 0 []) 7, Row.I (r12.getD 0 []) 8, Row.S (r12.getD 0 []) 9) (Row.S (r12.getD 0 []) 4) (Row.R (r12.getD 0 []) 5) s13 s14 s15 r17 r19 with
  | none =>
    simp only [outR, ref11_Like_q (n := n) (r1 := []) (r3 := []) (by unfold big; simp) (by simp; omega), like_refl, obind_some, cond_true, beq_self_eq_true]
  | some e =>
    have := lit_len hy
    simp only [outR, ref11_Like_q (n := n) (r1 := e) (r3 := e) (by unfold big; omega) (by omega), like_refl, obind_some, cond_true, beq_self_eq_true]
end Go.Den
