import Derived.Test.YtamalelonhdfaaaM5
import Derived.Test.YtamalelonhdfaaaO3
set_option linter.unusedVariables false
set_option linter.unusedSimpArgs false
set_option linter.unusedSectionVars false
/- MatchFollows. -/
namespace Go.Den
open Go.Proofs
def litAt (home : Tm) (r f : Row) (env : Rows) : Option Rows := lit home (tmAt r 0) (tmAt r 6) (Row.S r 4) (Row.R r 5) (Row.S f 0) (Row.S f 1) (Row.S f 2) (Row.R f 3) env
def litsS (home : Tm) : Rows → Rows → Rows → Option Rows
  | r :: l, f :: m, env => match litAt home r f env with
    | some e => litsS home l m e
    | none => none
  | _, _, env => some env
def endS (home to : Tm) (pred : ByteArray) (args env : Rows) (d : Fc) : Bool :=
  match headS home to pred args env with
  | some f => ordF f d == 0
  | none => false
def followsS (home to : Tm) (pred : ByteArray) (args body : Rows) (d : Fc) (db : Rows) : Bool :=
  match unify home (txt d.2.1) [] with
  | none => false
  | some e => bif (body.length : Int) != (db.length : Int) then false else
    match litsS home body db e with
    | none => false
    | some e => endS home to pred args e d
section
variable {n : Nat} {s0 s3 s4 s7 s10 s14 s15 s16 : ByteArray} {b1 b5 b8 b11 b17 b19 : Bool} {j2 j9 j13 : Int} {r6 r12 r18 r20 : Rows}
theorem match_Follows_loop (hn : 100000 < n) (h6 : r6.length ≤ 200) (h12 : r12.length ≤ 200) (ha : ∀ r ∈ r12, (Row.R r 5).length ≤ 200) (h18 : r18.length < n) (hl : r12.length = r20.length) :
    ∀ k q : Nat, q + k = r12.length → ∀ f nl e, k < f → e.length ≤ 1 + q * 202 → (nl = true → e = []) →
    match_Follows_l5 n s0 b1 j2 s3 s4 b5 r6 s7 b8 j9 s10 b11 r12 j13 s14 s15 s16 b17 r18 b19 r20 f nl e (q : Int) =
      some ((match litsS (s0, b1, j2, s3) (r12.drop q) (r20.drop q) e with
        | none => false
        | some e => endS (s0, b1, j2, s3) (s7, b8, j9, s10) s4 r6 e (s14, s15, s16, r18)), ()) := by
  intro k
  induction k with
  | zero =>
    intro q hq f nl e hf he hw
    obtain ⟨f, rfl⟩ : ∃ z, f = z + 1 := ⟨f - 1, by omega⟩
    rw [match_Follows_s5, List.drop_eq_nil_of_le (by omega)]
    have h1 : ¬ ((q : Int) < (r12.length : Int)) := by omega
    simp only [h1, decide_false, cond_false, litsS]
    rw [match_Head_q (by unfold big; omega) (by omega) (by omega) (by omega)]
    unfold endS
    cases hh : headS (s0, b1, j2, s3) (s7, b8, j9, s10) s4 r6 e with
    | none => rfl
    | some g =>
      have hg := headS_len hh
      simp only [outH, obind_some, cond_true]
      rw [fact_Order_q (by unfold big; omega) (by omega) (by omega)]
      rfl
  | succ k ih =>
    intro q hq f nl e hf he hw
    obtain ⟨f, rfl⟩ : ∃ z, f = z + 1 := ⟨f - 1, by omega⟩
    have hlt : q < r12.length := by omega
    have hlt2 : q < r20.length := by omega
    rw [match_Follows_s5, List.drop_eq_getElem_cons hlt, List.drop_eq_getElem_cons hlt2]
    have h1 : (q : Int) < (r12.length : Int) := by omega
    have h2 : (q : Int) < (r20.length : Int) := by omega
    have h0 : (0 : Int) ≤ (q : Int) := by omega
    have har := ha _ (List.getElem_mem hlt)
    rw [wrap_succ (show q < big by unfold big; omega)]
    obtain ⟨nl1, e1, w1⟩ := match_Literal_q (n := n) (s0 := s0) (b1 := b1) (j2 := j2) (s3 := s3) (s4 := Row.S r12[q] 0) (b5 := Row.B r12[q] 1) (j6 := Row.I r12[q] 2) (s7 := Row.S r12[q] 3) (s8 := Row.S r12[q] 4) (b9 := Row.N r12[q] 5) (r10 := Row.R r12[q] 5) (s11 := Row.S r12[q] 6) (b12 := Row.B r12[q] 7) (j13 := Row.I r12[q] 8) (s14 := Row.S r12[q] 9) (s15 := Row.S r20[q] 0) (s16 := Row.S r20[q] 1) (s17 := Row.S r20[q] 2) (b18 := Row.N r20[q] 3) (r19 := Row.R r20[q] 3) (b20 := nl) (r21 := e) (by omega) (by omega) hn hw
    simp only [h1, h2, h0, decide_true, cond_true, if_true, Int.toNat_natCast, getD_get hlt, getD_get hlt2, e1, obind_some, litsS]
    have m : lit (s0, b1, j2, s3) (Row.S r12[q] 0, Row.B r12[q] 1, Row.I r12[q] 2, Row.S r12[q] 3) (Row.S r12[q] 6, Row.B r12[q] 7, Row.I r12[q] 8, Row.S r12[q] 9) (Row.S r12[q] 4) (Row.R r12[q] 5) (Row.S r20[q] 0) (Row.S r20[q] 1) (Row.S r20[q] 2) (Row.R r20[q] 3) e = litAt (s0, b1, j2, s3) r12[q] r20[q] e := rfl
    rw [m] at w1 ⊢
    cases hy : litAt (s0, b1, j2, s3) r12[q] r20[q] e with
    | none => rfl
    | some e2 =>
      have hle := lit_len hy
      simp only [outR, Bool.not_true, cond_false]
      exact ih (q + 1) (by omega) f nl1 e2 (by omega) (by omega) (fun h => w1 h e2 hy)
theorem ref11_Follows_loop (hn : 100000 < n) (h6 : r6.length ≤ 200) (h12 : r12.length ≤ 200) (ha : ∀ r ∈ r12, (Row.R r 5).length ≤ 200) (h18 : r18.length < n) (hl : r12.length = r20.length) :
    ∀ k q : Nat, q + k = r12.length → ∀ f nl e, k < f → e.length ≤ 1 + q * 202 →
    ref11_Follows_l5 n s0 b1 j2 s3 s4 b5 r6 s7 b8 j9 s10 b11 r12 j13 s14 s15 s16 b17 r18 b19 r20 f nl e (q : Int) =
      some ((match litsS (s0, b1, j2, s3) (r12.drop q) (r20.drop q) e with
        | none => false
        | some e => endS (s0, b1, j2, s3) (s7, b8, j9, s10) s4 r6 e (s14, s15, s16, r18)), ()) := by
  intro k
  induction k with
  | zero =>
    intro q hq f nl e hf he
    obtain ⟨f, rfl⟩ : ∃ z, f = z + 1 := ⟨f - 1, by omega⟩
    rw [ref11_Follows_s5, List.drop_eq_nil_of_le (by omega)]
    have h1 : ¬ ((q : Int) < (r12.length : Int)) := by omega
    simp only [h1, decide_false, cond_false, litsS]
    rw [ref11_Head_q (by unfold big; omega) (by omega) (by omega) (by omega)]
    unfold endS
    cases hh : headS (s0, b1, j2, s3) (s7, b8, j9, s10) s4 r6 e with
    | none => rfl
    | some g =>
      have hg := headS_len hh
      simp only [outH, obind_some, cond_true]
      rw [ref04_Order_q (by unfold big; omega) (by omega)]
      rfl
  | succ k ih =>
    intro q hq f nl e hf he
    obtain ⟨f, rfl⟩ : ∃ z, f = z + 1 := ⟨f - 1, by omega⟩
    have hlt : q < r12.length := by omega
    have hlt2 : q < r20.length := by omega
    rw [ref11_Follows_s5, List.drop_eq_getElem_cons hlt, List.drop_eq_getElem_cons hlt2]
    have h1 : (q : Int) < (r12.length : Int) := by omega
    have h2 : (q : Int) < (r20.length : Int) := by omega
    have h0 : (0 : Int) ≤ (q : Int) := by omega
    have har := ha _ (List.getElem_mem hlt)
    rw [wrap_succ (show q < big by unfold big; omega)]
    obtain ⟨nl1, e1⟩ := ref_Literal_q (n := n) (s0 := s0) (b1 := b1) (j2 := j2) (s3 := s3) (s4 := Row.S r12[q] 0) (b5 := Row.B r12[q] 1) (j6 := Row.I r12[q] 2) (s7 := Row.S r12[q] 3) (s8 := Row.S r12[q] 4) (b9 := Row.N r12[q] 5) (r10 := Row.R r12[q] 5) (s11 := Row.S r12[q] 6) (b12 := Row.B r12[q] 7) (j13 := Row.I r12[q] 8) (s14 := Row.S r12[q] 9) (s15 := Row.S r20[q] 0) (s16 := Row.S r20[q] 1) (s17 := Row.S r20[q] 2) (b18 := Row.N r20[q] 3) (r19 := Row.R r20[q] 3) (b20 := nl) (r21 := e) (by omega) (by omega) hn
    simp only [h1, h2, h0, decide_true, cond_true, if_true, Int.toNat_natCast, getD_get hlt, getD_get hlt2, e1, obind_some, litsS]
    have m : lit (s0, b1, j2, s3) (Row.S r12[q] 0, Row.B r12[q] 1, Row.I r12[q] 2, Row.S r12[q] 3) (Row.S r12[q] 6, Row.B r12[q] 7, Row.I r12[q] 8, Row.S r12[q] 9) (Row.S r12[q] 4) (Row.R r12[q] 5) (Row.S r20[q] 0) (Row.S r20[q] 1) (Row.S r20[q] 2) (Row.R r20[q] 3) e = litAt (s0, b1, j2, s3) r12[q] r20[q] e := rfl
    rw [m]
    cases hy : litAt (s0, b1, j2, s3) r12[q] r20[q] e with
    | none => rfl
    | some e2 =>
      have hle := lit_len hy
      simp only [outR, Bool.not_true, cond_false]
      exact ih (q + 1) (by omega) f nl1 e2 (by omega) (by omega)
theorem match_Follows_q (hn : 100000 < n) (h6 : r6.length ≤ 200) (h12 : r12.length ≤ 200) (ha : ∀ r ∈ r12, (Row.R r 5).length ≤ 200) (h18 : r18.length < n) :
    match_Follows_v n s0 b1 j2 s3 s4 b5 r6 s7 b8 j9 s10 b11 r12 j13 s14 s15 s16 b17 r18 b19 r20 = some (followsS (s0, b1, j2, s3) (s7, b8, j9, s10) s4 r6 r12 (s14, s15, s16, r18) r20, ()) := by
  rw [match_Follows_e]
  obtain ⟨nl1, hu, hw1⟩ := match_Unify_q (n := n) (v := s0) (b := b1) (i := j2) (s := s3) (cb := false) (ci := 0) (cs := s15) (nl := true) (env := []) (by simp) (by simp; omega) (fun _ => rfl)
  simp only [match_text_q, obind_some, hu]
  unfold followsS
  have e2 : ((false, 0, s15) : Cn) = txt s15 := rfl
  rw [e2] at hw1 ⊢
  cases hy : unify (s0, b1, j2, s3) (txt s15) [] with
  | none => rfl
  | some e =>
    have hle := unify_len hy
    simp only [List.length_nil] at hle
    simp only [outR, Bool.not_true, cond_false]
    cases hc : (r12.length : Int) != (r20.length : Int) with
    | true => rfl
    | false =>
      have hlen : r12.length = r20.length := by
        have h : (r12.length : Int) = (r20.length : Int) := by simpa using hc
        omega
      simp only [cond_false]
      exact match_Follows_loop hn h6 h12 ha h18 hlen r12.length 0 (by omega) n nl1 e (by omega) (by omega) (fun h => hw1 h e hy)
theorem ref11_Follows_q (hn : 100000 < n) (h6 : r6.length ≤ 200) (h12 : r12.length ≤ 200) (ha : ∀ r ∈ r12, (Row.R r 5).length ≤ 200) (h18 : r18.length < n) :
    ref11_Follows_v n s0 b1 j2 s3 s4 b5 r6 s7 b8 j9 s10 b11 r12 j13 s14 s15 s16 b17 r18 b19 r20 = some (followsS (s0, b1, j2, s3) (s7, b8, j9, s10) s4 r6 r12 (s14, s15, s16, r18) r20, ()) := by
  rw [ref11_Follows_e]
  obtain ⟨nl1, hu⟩ := ref11_Unify_q (n := n) (v := s0) (b := b1) (i := j2) (s := s3) (cb := false) (ci := 0) (cs := s15) (nl := true) (env := []) (by simp) (by simp; omega)
  simp only [ref11_Name_q, obind_some, hu]
  unfold followsS
  have e2 : ((false, 0, s15) : Cn) = txt s15 := rfl
  rw [e2]
  cases hy : unify (s0, b1, j2, s3) (txt s15) [] with
  | none => rfl
  | some e =>
    have hle := unify_len hy
    simp only [List.length_nil] at hle
    simp only [outR, Bool.not_true, cond_false]
    cases hc : (r12.length : Int) != (r20.length : Int) with
    | true => rfl
    | false =>
      have hlen : r12.length = r20.length := by
        have h : (r12.length : Int) = (r20.length : Int) := by simpa using hc
        omega
      simp only [cond_false]
      exact ref11_Follows_loop hn h6 h12 ha h18 hlen r12.length 0 (by omega) n nl1 e (by omega) (by omega)
end
theorem kbytes_kF : kbytes kF = 72 := by decide
theorem law11_MatchFollows_pure (s0 : ByteArray) (b1 : Bool) (j2 : Int) (s3 s4 : ByteArray) (b5 : Bool) (r6 : Rows) (s7 : ByteArray) (b8 : Bool) (j9 : Int) (s10 : ByteArray) (b11 : Bool) (r12 : Rows) (j13 : Int) (s14 s15 s16 : ByteArray) (b17 : Bool) (r18 : Rows) (b19 : Bool) (r20 : Rows)
    (h0 : s0.size ≤ reachBytes) (h2 : (Lit.int .i64 j2).wf = true) (h3 : s3.size ≤ reachBytes) (h4 : s4.size ≤ reachBytes) (h6 : Fsl b5 kT r6) (h7 : s7.size ≤ reachBytes) (h9 : (Lit.int .i64 j9).wf = true) (h10 : s10.size ≤ reachBytes) (h12 : Fsl b11 kL r12)
    (_h13 : (Lit.int .i64 j13).wf = true) (h14 : s14.size ≤ reachBytes) (h15 : s15.size ≤ reachBytes) (h16 : s16.size ≤ reachBytes) (h18 : Fsl b17 kC r18) (h20 : Fsl b19 kF r20) :
    ∃ n, law11_MatchFollows_v n s0 b1 j2 s3 s4 b5 r6 s7 b8 j9 s10 b11 r12 j13 s14 s15 s16 b17 r18 b19 r20 = some (true, ()) := by
  refine ⟨1000000 + r12.length + r18.length + r20.length + 140737488355328, ?_⟩
  generalize hN : 1000000 + r12.length + r18.length + r20.length + 140737488355328 = n
  rw [law11_MatchFollows_e]
  have hkb := h20.2.2.2
  rw [kbytes_kF] at hkb
  have c1 : (1 + r20.length) * 72 ≤ 140737488355328 := by unfold reachBytes at hkb; omega
  have hfr := factRow_fine h14 h15 h16 h18 r20 h20.2.2.1
  obtain ⟨b, hb, hl⟩ := light_q (n := n) (b1 := b1) (b8 := b8) (b13 := false && r20.isEmpty) (r14 := [[DV.val (Value.string s14), DV.val (Value.string s15), DV.val (Value.string s16), DV.sl b17 [Kd.b, Kd.i IntKind.i64, Kd.s] r18]] ++ r20) (b15 := true) (r16 := []) ⟨h0, h2, h3, h4, h6, h7, h9, h10, h12⟩ hfr
    (by simp only [List.singleton_append, List.length_cons]; unfold reachBytes at *; omega) (by omega)
    (fun r hr' => by
      rcases List.mem_cons.1 hr' with rfl | hr'
      · show r18.length < n; omega
      · have := (fineF (rowsFine_mem h20.2.2.1 hr')).1
        unfold reachBytes at this; omega)
    (by simp only [List.singleton_append, List.length_cons]; omega) (by omega)
  simp only [List.length_cons, List.length_nil, Nat.zero_add, c1, if_true, appX]
  rw [hb]
  simp only [obind_some, mlive_at (n := n) (by omega)]
  cases b with
  | false => rfl
  | true =>
  obtain ⟨g1, g2, g3, g4, g5, _⟩ := hl rfl
  simp only [Bool.not_true, cond_false]
  rw [match_Follows_q (by omega) g1 g2 g3 (by omega), ref11_Follows_q (by omega) g1 g2 g3 (by omega)]
  simp only [obind_some, beq_self_eq_true, cond_true]
end Go.Den
