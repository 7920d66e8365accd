import Derived.Test.YtamalelonhdfaaaM3
import Derived.Test.YtamalelonhdfaaaM7
import Derived.Test.YtamalelonhdfaaaO2
import Derived.Test.YtamalelonhdfaaaE11g
set_option linter.unusedVariables false
set_option linter.unusedSimpArgs false
set_option linter.unusedSectionVars false
/- MatchGrows. -/
namespace Go.Den
open Go.Proofs
theorem law11_MatchGrows_pure (s0 : ByteArray) (b1 : Bool) (j2 : Int) (s3 s4 : ByteArray) (b5 : Bool) (r6 : Rows) (s7 : ByteArray) (b8 : Bool) (j9 : Int) (s10 : ByteArray) (b11 : Bool) (r12 : Rows) (s13 s14 s15 : ByteArray) (b16 : Bool) (r17 : Rows) (s18 s19 s20 : ByteArray) (b21 : Bool) (r22 : Rows)
    (h0 : s0.size ≤ reachBytes) (h2 : (Lit.int .i64 j2).wf = true) (h3 : s3.size ≤ reachBytes) (h4 : s4.size ≤ reachBytes) (h6 : Fsl b5 kT r6) (h7 : s7.size ≤ reachBytes) (h9 : (Lit.int .i64 j9).wf = true) (h10 : s10.size ≤ reachBytes) (h12 : Fsl b11 kL r12)
    (h13 : s13.size ≤ reachBytes) (h14 : s14.size ≤ reachBytes) (h15 : s15.size ≤ reachBytes) (h17 : Fsl b16 kC r17) (h18 : s18.size ≤ reachBytes) (h19 : s19.size ≤ reachBytes) (h20 : s20.size ≤ reachBytes) (h22 : Fsl b21 kC r22) :
    ∃ n, law11_MatchGrows_v n s0 b1 j2 s3 s4 b5 r6 s7 b8 j9 s10 b11 r12 s13 s14 s15 b16 r17 s18 s19 s20 b21 r22 = some (true, ()) := by
  refine ⟨1000000 + r12.length + r17.length + r22.length, ?_⟩
  generalize hN : 1000000 + r12.length + r17.length + r22.length = n
  rw [law11_MatchGrows_e]
  have hfr := factRow_fine h13 h14 h15 h17 _ (factRow_fine h18 h19 h20 h22 [] trivial)
  obtain ⟨b, hb, hl⟩ := light_q (n := n) (b1 := b1) (b8 := b8) (b13 := false) (b15 := true) (r16 := []) ⟨h0, h2, h3, h4, h6, h7, h9, h10, h12⟩ hfr (by simp [reachBytes]) (by omega)
    (fun r hr' => by
      rcases List.mem_cons.1 hr' with rfl | hr'
      · show r17.length < n; omega
      · rcases List.mem_singleton.1 hr' with rfl
        show r22.length < n; omega) (by simp; omega) (by omega)
  rw [hb]
  simp only [obind_some, mlive_at (n := n) (by omega)]
  cases b with
  | false => rfl
  | true =>
  obtain ⟨g1, g2, g3, _, g5, _⟩ := hl rfl
  have g17 : r17.length ≤ 200 := g5 _ List.mem_cons_self
  simp only [Bool.not_true, cond_false]
  cases h0' : (r12.length : Int) == 0 with
  | true => rfl
  | false =>
  have hpos : 0 < r12.length := by
    have : ¬ (r12.length : Int) = 0 := by simpa using h0'
    omega
  have hpos' : (0 : Int) < (r12.length : Int) := by omega
  have ha := g3 _ (getD_mem hpos)
  simp only [cond_false, hpos', if_true]
  obtain ⟨nl1, e1, w1⟩ := match_Literal_q (n := n) (s0 := s0) (b1 := b1) (j2 := j2) (s3 := s3) (s4 := Row.S (r12.getD 0 []) 0) (b5 := Row.B (r12.getD 0 []) 1) (j6 := Row.I (r12.getD 0 []) 2) (s7 := Row.S (r12.getD 0 []) 3) (s8 := Row.S (r12.getD 0 []) 4) (b9 := Row.N (r12.getD 0 []) 5) (r10 := Row.R (r12.getD 0 []) 5) (s11 := Row.S (r12.getD 0 []) 6) (b12 := Row.B (r12.getD 0 []) 7) (j13 := Row.I (r12.getD 0 []) 8) (s14 := Row.S (r12.getD 0 []) 9) (s15 := s13) (s16 := s14) (s17 := s15) (b18 := b16) (r19 := r17) (b20 := false) (r21 := [[DV.val (Value.string (ByteArray.mk #[65])), DV.val (Value.bool false), DV.val (Value.int IntKind.i64 0), DV.val (Value.string s13)]]) (by omega) (by simp) (by omega) (fun h => by cases h)
  rw [e1]
  simp only [obind_some]
  cases hy : lit (s0, b1, j2, s3) (Row.S (r12.getD 0 []) 0, Row.B (r12.getD 0 []) 1, Row.I (r12.getD 0 []) 2, Row.S (r12.getD 0 []) 3) (Row.S (r12.getD 0 []) 6, Row.B (r12.getD 0 []) 7, Row.I (r12.getD 0 []) 8, Row.S (r12.getD 0 []) 9) (Row.S (r12.getD 0 []) 4) (Row.R (r12.getD 0 []) 5) s13 s14 s15 r17 [[DV.val (Value.string (ByteArray.mk #[65])), DV.val (Value.bool false), DV.val (Value.int IntKind.i64 0), DV.val (Value.string s13)]] with
  | none => rfl
  | some a =>
    have hlen := lit_len hy
    simp only [List.length_cons, List.length_nil] at hlen
    obtain ⟨⟨x, hx⟩, hh⟩ := lit_held (f := (s13, s14, s15, r17)) hy
    have w1' := fun h => w1 h a hy
    have again := held_lit (g := (s13, s14, s15, r17)) hh
    have other := held_lit (g := (s18, s19, s20, r22)) hh
    have again' : lit (s0, b1, j2, s3) (Row.S (r12.getD 0 []) 0, Row.B (r12.getD 0 []) 1, Row.I (r12.getD 0 []) 2, Row.S (r12.getD 0 []) 3) (Row.S (r12.getD 0 []) 6, Row.B (r12.getD 0 []) 7, Row.I (r12.getD 0 []) 8, Row.S (r12.getD 0 []) 9) (Row.S (r12.getD 0 []) 4) (Row.R (r12.getD 0 []) 5) s13 s14 s15 r17 a = some a := by
      rcases again with ⟨h, _⟩ | ⟨_, h⟩
      · exact h
      · exact absurd ⟨rfl, rfl, rfl, rfl⟩ h
    obtain ⟨nl2, e2, _⟩ := match_Literal_q (n := n) (s0 := s0) (b1 := b1) (j2 := j2) (s3 := s3) (s4 := Row.S (r12.getD 0 []) 0) (b5 := Row.B (r12.getD 0 []) 1) (j6 := Row.I (r12.getD 0 []) 2) (s7 := Row.S (r12.getD 0 []) 3) (s8 := Row.S (r12.getD 0 []) 4) (b9 := Row.N (r12.getD 0 []) 5) (r10 := Row.R (r12.getD 0 []) 5) (s11 := Row.S (r12.getD 0 []) 6) (b12 := Row.B (r12.getD 0 []) 7) (j13 := Row.I (r12.getD 0 []) 8) (s14 := Row.S (r12.getD 0 []) 9) (s15 := s13) (s16 := s14) (s17 := s15) (b18 := b16) (r19 := r17) (b20 := nl1) (r21 := a) (by omega) (by omega) (by omega) w1'
    obtain ⟨nl3, e3, _⟩ := match_Literal_q (n := n) (s0 := s0) (b1 := b1) (j2 := j2) (s3 := s3) (s4 := Row.S (r12.getD 0 []) 0) (b5 := Row.B (r12.getD 0 []) 1) (j6 := Row.I (r12.getD 0 []) 2) (s7 := Row.S (r12.getD 0 []) 3) (s8 := Row.S (r12.getD 0 []) 4) (b9 := Row.N (r12.getD 0 []) 5) (r10 := Row.R (r12.getD 0 []) 5) (s11 := Row.S (r12.getD 0 []) 6) (b12 := Row.B (r12.getD 0 []) 7) (j13 := Row.I (r12.getD 0 []) 8) (s14 := Row.S (r12.getD 0 []) 9) (s15 := s18) (s16 := s19) (s17 := s20) (b18 := b21) (r19 := r22) (b20 := nl1) (r21 := a) (by omega) (by omega) (by omega) w1'
    rw [again'] at e2
    simp only [outR, Bool.not_true, cond_false]
    rw [e2, e3]
    have k1 : (a.length : Int) ≥ 1 := by rw [hx]; simp only [List.length_append, List.length_cons, List.length_nil]; omega
    have k2 : (0 : Int) < (a.length : Int) := by omega
    have k3 : a.getD 0 [] = [DV.val (Value.string (ByteArray.mk #[65])), DV.val (Value.bool false), DV.val (Value.int IntKind.i64 0), DV.val (Value.string s13)] := by rw [hx]; rfl
    simp only [obind_some, outR, k1, k2, k3, decide_true, cond_true, if_true, beq_self_eq_true, Bool.and_self, ref11_Like_q (n := n) (r1 := a) (r3 := a) (by unfold big; omega) (by omega), like_refl, ref04_Order_q (n := n) (r4 := r17) (r9 := r22) (by unfold big; omega) (by omega)]
    rcases other with ⟨h, hs⟩ | ⟨h, hs⟩
    · have h' : lit (s0, b1, j2, s3) (Row.S (r12.getD 0 []) 0, Row.B (r12.getD 0 []) 1, Row.I (r12.getD 0 []) 2, Row.S (r12.getD 0 []) 3) (Row.S (r12.getD 0 []) 6, Row.B (r12.getD 0 []) 7, Row.I (r12.getD 0 []) 8, Row.S (r12.getD 0 []) 9) (Row.S (r12.getD 0 []) 4) (Row.R (r12.getD 0 []) 5) s18 s19 s20 r22 a = some a := h
      have ho : (ordF (s13, s14, s15, r17) (s18, s19, s20, r22) == 0) = true := by rw [ordF_zero.2 hs]; rfl
      rw [h', ho]; rfl
    · have h' : lit (s0, b1, j2, s3) (Row.S (r12.getD 0 []) 0, Row.B (r12.getD 0 []) 1, Row.I (r12.getD 0 []) 2, Row.S (r12.getD 0 []) 3) (Row.S (r12.getD 0 []) 6, Row.B (r12.getD 0 []) 7, Row.I (r12.getD 0 []) 8, Row.S (r12.getD 0 []) 9) (Row.S (r12.getD 0 []) 4) (Row.R (r12.getD 0 []) 5) s18 s19 s20 r22 a = none := h
      have ho : (ordF (s13, s14, s15, r17) (s18, s19, s20, r22) == 0) = false := by
        have : ¬ ordF (s13, s14, s15, r17) (s18, s19, s20, r22) = 0 := fun h => hs (ordF_zero.1 h)
        simpa using this
      rw [h', ho]; rfl
end Go.Den
