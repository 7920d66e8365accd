import Derived.Test.YtkgiabbndbmmbaaZ30
set_option linter.unusedVariables false
set_option linter.unusedSimpArgs false
set_option linter.unusedSectionVars false
namespace Go.Den
open Go.Proofs
def isOf (f : KF) (d : KD) : Bool := ordK d.2.1 f == 0
section
variable {n : Nat} (hn : 1000 < n)
include hn
theorem of_test {r : Row} {s0 s1 s2 : ByteArray} {b3 : Bool} {r4 : Rows} (h : SmallD r) (h4 : r4.length ≤ 500) :
    z14_v n (Row.I r 0) (Row.S r 1) (Row.S r 2) (Row.S r 3) (Row.N r 4) (Row.R r 4) (Row.N r 5) (Row.R r 5) ([DV.val (Value.string s0), DV.val (Value.string s1), DV.val (Value.string s2), DV.sl b3 [Kd.b, Kd.i IntKind.i64, Kd.s] r4]) = some (isOf (kf s0 s1 s2 b3 r4) (dr r), ()) := by
  rw [z14_e]
  have e0 : Row.S ([DV.val (Value.string s0), DV.val (Value.string s1), DV.val (Value.string s2), DV.sl b3 [Kd.b, Kd.i IntKind.i64, Kd.s] r4]) 0 = s0 := rfl
  have e1 : Row.S ([DV.val (Value.string s0), DV.val (Value.string s1), DV.val (Value.string s2), DV.sl b3 [Kd.b, Kd.i IntKind.i64, Kd.s] r4]) 1 = s1 := rfl
  have e2 : Row.S ([DV.val (Value.string s0), DV.val (Value.string s1), DV.val (Value.string s2), DV.sl b3 [Kd.b, Kd.i IntKind.i64, Kd.s] r4]) 2 = s2 := rfl
  have e3 : Row.N ([DV.val (Value.string s0), DV.val (Value.string s1), DV.val (Value.string s2), DV.sl b3 [Kd.b, Kd.i IntKind.i64, Kd.s] r4]) 3 = b3 := rfl
  have e4 : Row.R ([DV.val (Value.string s0), DV.val (Value.string s1), DV.val (Value.string s2), DV.sl b3 [Kd.b, Kd.i IntKind.i64, Kd.s] r4]) 3 = r4 := rfl
  rw [e0, e1, e2, e3, e4]
  have : z40_v n (Row.S r 1) (Row.S r 2) (Row.S r 3) (Row.N r 4) (Row.R r 4) s0 s1 s2 b3 r4 = some (ordK (dr r).2.1 (kf s0 s1 s2 b3 r4), ()) := z40_q (by have := h.1; unfold big; omega) (by have := h.1; omega) (by omega)
  rw [this]; rfl
theorem of_loop {b0 b6 : Bool} {r1 r7 : Rows} {s3 s4 s5 : ByteArray} (h1 : SmallDs r1) (hl : r1.length ≤ 900) (h7 : r7.length ≤ 500) : ∀ k q : Nat, q + k = r1.length → ∀ f (b11 : Bool) (r12 : Rows), k < f → r12.length ≤ q → SmallDs r12 →
    ∃ b rows, z8_l5 n b0 r1 true s3 s4 s5 b6 r7 f b11 r12 (q : Int) = some ((b, rows), (((b0, r1), (true, ())), ((s3, (s4, (s5, ((b6, r7), ())))), ()))) ∧
      rows.map dr = r12.map dr ++ ((r1.drop q).map dr).filter (isOf (kf s3 s4 s5 b6 r7)) ∧ SmallDs rows ∧ rows.length ≤ r1.length := by
  intro k
  induction k with
  | zero =>
    intro q hq f b11 r12 hf hlen hs
    obtain ⟨f, rfl⟩ : ∃ z, f = z + 1 := ⟨f - 1, by omega⟩
    rw [z8_s5, List.drop_eq_nil_of_le (show r1.length ≤ q by omega)]
    have g1 : ¬ ((q : Int) < (r1.length : Int)) := by omega
    simp only [g1, decide_false, cond_false]
    exact ⟨b11, r12, rfl, by simp, hs, by omega⟩
  | succ k ih =>
    intro q hq f b11 r12 hf hlen hs
    obtain ⟨f, rfl⟩ : ∃ z, f = z + 1 := ⟨f - 1, by omega⟩
    have hlt : q < r1.length := by omega
    have g1 : (q : Int) < (r1.length : Int) := by omega
    have g0 : (0 : Int) ≤ (q : Int) := by omega
    have hx := h1 _ (List.getElem_mem hlt)
    rw [z8_s5, List.drop_eq_getElem_cons hlt, List.map_cons, wrap_succ (show q < big by unfold big; omega), List.filter_cons]
    simp only [g1, g0, decide_true, cond_true, if_true, Int.toNat_natCast, getD_get hlt, of_test hn hx h7, obind_some]
    cases ht : isOf (kf s3 s4 s5 b6 r7) (dr r1[q]) with
    | false =>
      simp only [cond_false]
      exact ih (q + 1) (by omega) f b11 r12 (by omega) (by omega) hs
    | true =>
      obtain ⟨b, rows, o1, o2, o3⟩ := own_q hn (j0 := Row.I r1[q] 0) (s1 := Row.S r1[q] 1) (s2 := Row.S r1[q] 2) (s3 := Row.S r1[q] 3) hx.1 hx.2.1 hx.2.2.1 hx.2.2.2.1 hx.2.2.2.2
      have hsm : SmallD (rowD (Row.I r1[q] 0) (Row.S r1[q] 1) (Row.S r1[q] 2) (Row.S r1[q] 3) (Row.N r1[q] 4) (Row.R r1[q] 4) b rows) := by
        refine ⟨hx.1, hx.2.1, smallL_kr o2 hx.2.2.1, ?_, o3⟩
        have := congrArg List.length o2
        simp only [List.length_map] at this
        show rows.length ≤ 500
        have := hx.2.2.2.1
        omega
      have hdr : dr (rowD (Row.I r1[q] 0) (Row.S r1[q] 1) (Row.S r1[q] 2) (Row.S r1[q] 3) (Row.N r1[q] 4) (Row.R r1[q] 4) b rows) = dr r1[q] := by rw [dr_rowD, o2]; rfl
      have c1 : (r12.length + 1) * 104 ≤ 140737488355328 := by omega
      simp only [cond_true, o1, obind_some, List.length_cons, List.length_nil, Nat.zero_add, c1, if_true, appX]
      obtain ⟨b', rows', e1, e2, e3, e4⟩ := ih (q + 1) (by omega) f (b11 && false) (r12 ++ [rowD (Row.I r1[q] 0) (Row.S r1[q] 1) (Row.S r1[q] 2) (Row.S r1[q] 3) (Row.N r1[q] 4) (Row.R r1[q] 4) b rows]) (by omega) (by rw [List.length_append]; simp; omega) (fun r hr => by
        rcases List.mem_append.1 hr with hr | hr
        · exact hs r hr
        · rw [List.mem_singleton] at hr; subst hr; exact hsm)
      refine ⟨b', rows', e1, ?_, e3, e4⟩
      rw [e2, List.map_append, List.map_cons, List.map_nil, hdr, List.append_assoc]; rfl
theorem of_q {b3 b5 : Bool} {r4 r6 : Rows} {s0 s1 s2 : ByteArray} (h6 : SmallDs r6) (hl : r6.length ≤ 900) (h4 : r4.length ≤ 500) :
    ∃ b rows, z30_v n s0 s1 s2 b3 r4 b5 r6 true = some ((b, rows), (((b5, r6), (true, ())), ())) ∧ rows.map dr = (r6.map dr).filter (isOf (kf s0 s1 s2 b3 r4)) ∧ SmallDs rows ∧ rows.length ≤ r6.length := by
  rw [z30_e, z8_e, z15_e]
  simp only [obind_some]
  have e0 : (!Row.B ([DV.sl b5 [Kd.i IntKind.i64, Kd.s, Kd.s, Kd.s, Kd.sl [Kd.b, Kd.i IntKind.i64, Kd.s], Kd.sl [Kd.s, Kd.s, Kd.s, Kd.sl [Kd.b, Kd.i IntKind.i64, Kd.s]]] r6, DV.val (Value.bool true)]) 1) = false := rfl
  rw [e0, cond_false]
  obtain ⟨b, rows, e1, e2, e3, e4⟩ := of_loop hn (b0 := b5) (b6 := b3) (r1 := r6) (r7 := r4) (s3 := s0) (s4 := s1) (s5 := s2) h6 hl h4 r6.length 0 (by omega) n true [] (by omega) (Nat.le_refl _) (fun r hr => by cases hr)
  rw [show ((0 : Nat) : Int) = 0 from rfl] at e1
  rw [e1]
  exact ⟨b, rows, rfl, by simpa using e2, e3, e4⟩
end
def isUses (f : KF) (d : KD) : Bool := hasK f d.2.2
section
variable {n : Nat} (hn : 1000 < n)
include hn
theorem uses_test {r : Row} {s0 s1 s2 : ByteArray} {b3 : Bool} {r4 : Rows} (h : SmallD r) (h4 : r4.length ≤ 500) :
    z11_v n (Row.I r 0) (Row.S r 1) (Row.S r 2) (Row.S r 3) (Row.N r 4) (Row.R r 4) (Row.N r 5) (Row.R r 5) ([DV.val (Value.string s0), DV.val (Value.string s1), DV.val (Value.string s2), DV.sl b3 [Kd.b, Kd.i IntKind.i64, Kd.s] r4]) = some (isUses (kf s0 s1 s2 b3 r4) (dr r), ()) := by
  rw [z11_e]
  have e0 : Row.S ([DV.val (Value.string s0), DV.val (Value.string s1), DV.val (Value.string s2), DV.sl b3 [Kd.b, Kd.i IntKind.i64, Kd.s] r4]) 0 = s0 := rfl
  have e1 : Row.S ([DV.val (Value.string s0), DV.val (Value.string s1), DV.val (Value.string s2), DV.sl b3 [Kd.b, Kd.i IntKind.i64, Kd.s] r4]) 1 = s1 := rfl
  have e2 : Row.S ([DV.val (Value.string s0), DV.val (Value.string s1), DV.val (Value.string s2), DV.sl b3 [Kd.b, Kd.i IntKind.i64, Kd.s] r4]) 2 = s2 := rfl
  have e3 : Row.N ([DV.val (Value.string s0), DV.val (Value.string s1), DV.val (Value.string s2), DV.sl b3 [Kd.b, Kd.i IntKind.i64, Kd.s] r4]) 3 = b3 := rfl
  have e4 : Row.R ([DV.val (Value.string s0), DV.val (Value.string s1), DV.val (Value.string s2), DV.sl b3 [Kd.b, Kd.i IntKind.i64, Kd.s] r4]) 3 = r4 := rfl
  rw [e0, e1, e2, e3, e4]
  rw [has_q hn (b0 := Row.N r 5) (b5 := b3) (r1 := Row.R r 5) (r6 := r4) (s2 := s0) (s3 := s1) (s4 := s2) (by unfold big; omega) (by omega) (by have := h.2.2.2.1; omega)]; rfl
theorem uses_loop {b0 b6 : Bool} {r1 r7 : Rows} {s3 s4 s5 : ByteArray} (h1 : SmallDs r1) (hl : r1.length ≤ 900) (h7 : r7.length ≤ 500) : ∀ k q : Nat, q + k = r1.length → ∀ f (b11 : Bool) (r12 : Rows), k < f → r12.length ≤ q → SmallDs r12 →
    ∃ b rows, z5_l5 n b0 r1 true s3 s4 s5 b6 r7 f b11 r12 (q : Int) = some ((b, rows), (((b0, r1), (true, ())), ((s3, (s4, (s5, ((b6, r7), ())))), ()))) ∧
      rows.map dr = r12.map dr ++ ((r1.drop q).map dr).filter (isUses (kf s3 s4 s5 b6 r7)) ∧ SmallDs rows ∧ rows.length ≤ r1.length := by
  intro k
  induction k with
  | zero =>
    intro q hq f b11 r12 hf hlen hs
    obtain ⟨f, rfl⟩ : ∃ z, f = z + 1 := ⟨f - 1, by omega⟩
    rw [z5_s5, List.drop_eq_nil_of_le (show r1.length ≤ q by omega)]
    have g1 : ¬ ((q : Int) < (r1.length : Int)) := by omega
    simp only [g1, decide_false, cond_false]
    exact ⟨b11, r12, rfl, by simp, hs, by omega⟩
  | succ k ih =>
    intro q hq f b11 r12 hf hlen hs
    obtain ⟨f, rfl⟩ : ∃ z, f = z + 1 := ⟨f - 1, by omega⟩
    have hlt : q < r1.length := by omega
    have g1 : (q : Int) < (r1.length : Int) := by omega
    have g0 : (0 : Int) ≤ (q : Int) := by omega
    have hx := h1 _ (List.getElem_mem hlt)
    rw [z5_s5, List.drop_eq_getElem_cons hlt, List.map_cons, wrap_succ (show q < big by unfold big; omega), List.filter_cons]
    simp only [g1, g0, decide_true, cond_true, if_true, Int.toNat_natCast, getD_get hlt, uses_test hn hx h7, obind_some]
    cases ht : isUses (kf s3 s4 s5 b6 r7) (dr r1[q]) with
    | false =>
      simp only [cond_false]
      exact ih (q + 1) (by omega) f b11 r12 (by omega) (by omega) hs
    | true =>
      obtain ⟨b, rows, o1, o2, o3⟩ := own_q hn (j0 := Row.I r1[q] 0) (s1 := Row.S r1[q] 1) (s2 := Row.S r1[q] 2) (s3 := Row.S r1[q] 3) hx.1 hx.2.1 hx.2.2.1 hx.2.2.2.1 hx.2.2.2.2
      have hsm : SmallD (rowD (Row.I r1[q] 0) (Row.S r1[q] 1) (Row.S r1[q] 2) (Row.S r1[q] 3) (Row.N r1[q] 4) (Row.R r1[q] 4) b rows) := by
        refine ⟨hx.1, hx.2.1, smallL_kr o2 hx.2.2.1, ?_, o3⟩
        have := congrArg List.length o2
        simp only [List.length_map] at this
        show rows.length ≤ 500
        have := hx.2.2.2.1
        omega
      have hdr : dr (rowD (Row.I r1[q] 0) (Row.S r1[q] 1) (Row.S r1[q] 2) (Row.S r1[q] 3) (Row.N r1[q] 4) (Row.R r1[q] 4) b rows) = dr r1[q] := by rw [dr_rowD, o2]; rfl
      have c1 : (r12.length + 1) * 104 ≤ 140737488355328 := by omega
      simp only [cond_true, o1, obind_some, List.length_cons, List.length_nil, Nat.zero_add, c1, if_true, appX]
      obtain ⟨b', rows', e1, e2, e3, e4⟩ := ih (q + 1) (by omega) f (b11 && false) (r12 ++ [rowD (Row.I r1[q] 0) (Row.S r1[q] 1) (Row.S r1[q] 2) (Row.S r1[q] 3) (Row.N r1[q] 4) (Row.R r1[q] 4) b rows]) (by omega) (by rw [List.length_append]; simp; omega) (fun r hr => by
        rcases List.mem_append.1 hr with hr | hr
        · exact hs r hr
        · rw [List.mem_singleton] at hr; subst hr; exact hsm)
      refine ⟨b', rows', e1, ?_, e3, e4⟩
      rw [e2, List.map_append, List.map_cons, List.map_nil, hdr, List.append_assoc]; rfl
theorem uses_q {b3 b5 : Bool} {r4 r6 : Rows} {s0 s1 s2 : ByteArray} (h6 : SmallDs r6) (hl : r6.length ≤ 900) (h4 : r4.length ≤ 500) :
    ∃ b rows, z22_v n s0 s1 s2 b3 r4 b5 r6 true = some ((b, rows), (((b5, r6), (true, ())), ())) ∧ rows.map dr = (r6.map dr).filter (isUses (kf s0 s1 s2 b3 r4)) ∧ SmallDs rows ∧ rows.length ≤ r6.length := by
  rw [z22_e, z5_e, z15_e]
  simp only [obind_some]
  have e0 : (!Row.B ([DV.sl b5 [Kd.i IntKind.i64, Kd.s, Kd.s, Kd.s, Kd.sl [Kd.b, Kd.i IntKind.i64, Kd.s], Kd.sl [Kd.s, Kd.s, Kd.s, Kd.sl [Kd.b, Kd.i IntKind.i64, Kd.s]]] r6, DV.val (Value.bool true)]) 1) = false := rfl
  rw [e0, cond_false]
  obtain ⟨b, rows, e1, e2, e3, e4⟩ := uses_loop hn (b0 := b5) (b6 := b3) (r1 := r6) (r7 := r4) (s3 := s0) (s4 := s1) (s5 := s2) h6 hl h4 r6.length 0 (by omega) n true [] (by omega) (Nat.le_refl _) (fun r hr => by cases hr)
  rw [show ((0 : Nat) : Int) = 0 from rfl] at e1
  rw [e1]
  exact ⟨b, rows, rfl, by simpa using e2, e3, e4⟩
end
@[reducible] def headR (r : Row) : Row := [DV.val (Value.string (Row.S r 1)), DV.val (Value.string (Row.S r 2)), DV.val (Value.string (Row.S r 3)), DV.sl (Row.N r 4) [Kd.b, Kd.i IntKind.i64, Kd.s] (Row.R r 4)]
section
variable {n : Nat} (hn : 1000 < n)
include hn
theorem heads_loop {b0 : Bool} {r1 : Rows} (h1 : SmallDs r1) (hl : r1.length ≤ 500) : ∀ k q : Nat, q + k = r1.length → ∀ f (b : Bool) (r6 : Rows), k < f → r6 = (r1.take q).map headR →
    ∃ b' rows, z18_l5 n b0 r1 true f b r6 (q : Int) = some ((b', rows), (((b0, r1), (true, ())), ())) ∧ Canon (rows.map kr) (r1.map fun r => (dr r).2.1) ∧ rows.length ≤ r1.length ∧ SmallL rows := by
  intro k
  induction k with
  | zero =>
    intro q hq f b r6 hf he
    obtain ⟨f, rfl⟩ : ∃ z, f = z + 1 := ⟨f - 1, by omega⟩
    rw [z18_s5]
    have g1 : ¬ ((q : Int) < (r1.length : Int)) := by omega
    rw [List.take_of_length_le (by omega)] at he
    subst he
    have hs : SmallL (r1.map headR) := fun r hr => by
      obtain ⟨x, hx, rfl⟩ := List.mem_map.1 hr
      exact ⟨(h1 x hx).1, (h1 x hx).2.1⟩
    obtain ⟨y, rows, e1, e2, e3, e4, e5⟩ := sorted_q hn (b0 := b) hs (by rw [List.length_map]; omega)
    simp only [g1, decide_false, cond_false, e1, obind_some]
    rw [List.map_map] at e2
    rw [List.length_map] at e4
    exact ⟨y, rows, rfl, e2, e4, e5⟩
  | succ k ih =>
    intro q hq f b r6 hf he
    obtain ⟨f, rfl⟩ : ∃ z, f = z + 1 := ⟨f - 1, by omega⟩
    have hlt : q < r1.length := by omega
    have g1 : (q : Int) < (r1.length : Int) := by omega
    have g0 : (0 : Int) ≤ (q : Int) := by omega
    have hl6 : r6.length = q := by rw [he, List.length_map, List.length_take]; omega
    have c1 : (r6.length + 1) * 72 ≤ 140737488355328 := by omega
    rw [z18_s5, wrap_succ (show q < big by unfold big; omega)]
    simp only [g1, g0, decide_true, cond_true, if_true, Int.toNat_natCast, getD_get hlt, List.length_cons, List.length_nil, Nat.zero_add, c1, appX]
    refine ih (q + 1) (by omega) f _ _ (by omega) ?_
    rw [he, List.take_succ_eq_append_getElem hlt, List.map_append]; rfl
theorem heads_q {b0 : Bool} {r1 : Rows} (h1 : SmallDs r1) (hl : r1.length ≤ 500) :
    ∃ b' rows, z18_v n b0 r1 true = some ((b', rows), (((b0, r1), (true, ())), ())) ∧ Canon (rows.map kr) (r1.map fun r => (dr r).2.1) ∧ rows.length ≤ r1.length ∧ SmallL rows := by
  rw [z18_e, z15_e]
  simp only [obind_some]
  have e0 : (!Row.B ([DV.sl b0 [Kd.i IntKind.i64, Kd.s, Kd.s, Kd.s, Kd.sl [Kd.b, Kd.i IntKind.i64, Kd.s], Kd.sl [Kd.s, Kd.s, Kd.s, Kd.sl [Kd.b, Kd.i IntKind.i64, Kd.s]]] r1, DV.val (Value.bool true)]) 1) = false := rfl
  rw [e0, cond_false]
  exact heads_loop hn h1 hl r1.length 0 (by omega) n true [] (by omega) rfl
end
end Go.Den
