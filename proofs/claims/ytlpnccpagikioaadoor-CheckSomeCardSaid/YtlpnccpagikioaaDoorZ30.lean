import Derived.Test.YtlpnccpagikioaaDoorZ29
set_option linter.unusedVariables false
set_option linter.unusedSimpArgs false
set_option linter.unusedSectionVars false
/- CheckVars. -/
namespace Go.Den
open Go.Proofs
set_option linter.unusedVariables false
theorem bigN_2 : 2000000 < bigN := by unfold bigN reachBytes; omega
theorem obs {α β : Type} (a : α) (f : α → Option β) : obind (some a) f = f a := rfl
theorem law10_CheckVars_pure (s0 : ByteArray) (b1 : Bool) (j2 : Int) (s3 : ByteArray) (s4 : ByteArray) (b5 : Bool) (r6 : Rows) (s7 : ByteArray) (b8 : Bool) (j9 : Int) (s10 : ByteArray) (b11 : Bool) (r12 : Rows) (j13 : Int)
    (h0 : s0.size ≤ reachBytes) (h2 : (Lit.int .i64 j2).wf = true) (h3 : s3.size ≤ reachBytes) (h4 : s4.size ≤ reachBytes) (h6 : Fsl b5 kT r6) (h7 : s7.size ≤ reachBytes) (h9 : (Lit.int .i64 j9).wf = true) (h10 : s10.size ≤ reachBytes) (h12 : Fsl b11 kL r12) (h13 : (Lit.int .i64 j13).wf = true) :
    ∃ n, law10_CheckVars_v n s0 b1 j2 s3 s4 b5 r6 s7 b8 j9 s10 b11 r12 j13 = some (true, ()) := by
  refine ⟨bigN, ?_⟩
  have hN := bigN_big
  have hN2 := bigN_2
  have hlv := live_q (n := bigN) hN2
  generalize hX : ([.val (.string s0), .val (.bool b1), .val (.int .i64 j2), .val (.string s3), .val (.string s4), .sl b5 kT r6, .val (.string s7), .val (.bool b8), .val (.int .i64 j9), .val (.string s10), .sl b11 kL r12] : Row) = X
  have fX : Row.ofKds kR X = true ∧ RowFine X := by subst hX; exact ⟨rfl, h0, trivial, h2, h3, h4, h6, h7, trivial, h9, h10, h12, trivial⟩
  have hf : RowsFine kR [X] := ⟨fX.1, fX.2, trivial⟩
  have hlen : ([X] : Rows).length ≤ reachBytes := by show 1 ≤ reachBytes; unfold reachBytes; omega
  rw [law10_CheckVars_e]
  have hw := weight5_q (n := bigN) (b0 := false) (most := 300) (by omega) (by omega) hf hlen (fun r hr => bigN_lt (fineR (rowsFine_mem hf hr)).2.2.1) (bigN_lt hlen)
  have hwt : ref05_Weight_v bigN false ([[DV.val (Value.string s0), DV.val (Value.bool b1), DV.val (Value.int IntKind.i64 j2), DV.val (Value.string s3), DV.val (Value.string s4), DV.sl b5 [Kd.s, Kd.b, Kd.i IntKind.i64, Kd.s] r6, DV.val (Value.string s7), DV.val (Value.bool b8), DV.val (Value.int IntKind.i64 j9), DV.val (Value.string s10), DV.sl b11 [Kd.s, Kd.b, Kd.i IntKind.i64, Kd.s, Kd.s, Kd.sl [Kd.s, Kd.b, Kd.i IntKind.i64, Kd.s], Kd.s, Kd.b, Kd.i IntKind.i64, Kd.s] r12]]) 300 = some (weight5 300 [X] 0, ()) := by
    subst hX; exact hw
  rw [hwt, hlv]
  simp only [obs]
  by_cases hw2 : weight5 300 [X] 0 > 300
  · simp only [hw2, decide_true, cond_true]
  · simp only [hw2, decide_false, cond_false]
    obtain ⟨g1, g2⟩ := weight5_all2 (most := 300) [X] 0 hf (Int.le_refl _) (by omega)
    have oX : RuleOk bigN X := ruleOk fX (g2 X (by simp)).1 (g2 X (by simp)).2.1 (g2 X (by simp)).2.2
    have hB : BodyOk r12 := by have := bodyOk oX; subst hX; exact this
    have hb : 4000000 ≤ big := by unfold big; omega
    obtain ⟨c1, e1⟩ := Vars_q (n := bigN) (s0 := s0) (b1 := b1) (j2 := j2) (s3 := s3) (s4 := s4) (b5 := b5) (r6 := r6) (s7 := s7) (b8 := b8) (j9 := j9) (s10 := s10) (b11 := b11) (r12 := r12) hN2 hB
    obtain ⟨c2, e2⟩ := rVars_q (n := bigN) (s0 := s0) (b1 := b1) (j2 := j2) (s3 := s3) (s4 := s4) (b5 := b5) (r6 := r6) (s7 := s7) (b8 := b8) (j9 := j9) (s10 := s10) (b11 := b11) (r12 := r12) hN2 hB
    obtain ⟨c3, e3⟩ := Bound_q (n := bigN) (s0 := s0) (b1 := b1) (j2 := j2) (s3 := s3) (s4 := s4) (b5 := b5) (r6 := r6) (s7 := s7) (b8 := b8) (j9 := j9) (s10 := s10) (b11 := b11) (r12 := r12) (j13 := j13) hN2 hB
    obtain ⟨c4, e4⟩ := rBound_q (n := bigN) (s0 := s0) (b1 := b1) (j2 := j2) (s3 := s3) (s4 := s4) (b5 := b5) (r6 := r6) (s7 := s7) (b8 := b8) (j9 := j9) (s10 := s10) (b11 := b11) (r12 := r12) (j13 := j13) hN2 hB
    have l1 := bound_len (r12 := r12) (s0 := s0) (k := r12.length) hB
    have l2 := bound_len (r12 := r12) (s0 := s0) (k := j13.toNat) hB
    rw [e1, e2, e3, e4]
    simp only [obs]
    rw [Texts_q (by omega) (by omega), Texts_q (by omega) (by omega)]
    rfl
end Go.Den
