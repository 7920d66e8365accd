import Derived.Test.YtkgiabbndbmmbaaZ30
set_option linter.unusedVariables false
set_option linter.unusedSimpArgs false
set_option linter.unusedSectionVars false
namespace Go.Den
open Go.Proofs
def isOf (f : KF) (d : KD) : Bool := ordK d.2.1 f == 0
section
variable {n : Nat} (hn : 1000 < n)
include hn
theorem of_test {r : Row} {s0 s1 s2 : ByteArray} {b3 : Bool} {r4 : Rows} (h : SmallD r) (h4 : r4.length ≤ 500) :
  z13_v n (Row.I r 0) (Row.S r 1) (Row.S r 2) (Row.S r 3) (Row.N r 4) (Row.R r 4) (Row.N r 5) (Row.R r 5) ([DV.val (Value.string s0), DV.val (Value.string s1), DV.val (Value.string s2), DV.sl b3 [Kd.b, Kd.i IntKind.i64, Kd.s] r4]) = some (isOf (kf s0 s1 s2 b3 r4) (dr r), ()) := by
 rw [z13_e]
 have e0 : Row.S ([DV.val (Value.string s0), DV.val (Value.string s1), DV.val (Value.string s2), DV.sl b3 [Kd.b, Kd.i IntKind.i64, Kd.s] r4]) 0 = s0 := rfl
 have e1 : Row.S ([DV.val (Value.string s0), DV.val (Value.string s1), DV.val (Value.string s2), DV.sl b3 [Kd.b, Kd.i IntKind.i64, Kd.s] r4]) 1 = s1 := rfl
 have e2 : Row.S ([DV.val (Value.string s0), DV.val (Value.string s1), DV.val (Value.string s2), DV.sl b3 [Kd.b, Kd.i IntKind.i64, Kd.s] r4]) 2 = s2 := rfl
 have e3 : Row.N ([DV.val (Value.string s0), DV.val (Value.string s1), DV.val (Value.string s2), DV.sl b3 [Kd.b, Kd.i IntKind.i64, Kd.s] r4]) 3 = b3 := rfl
 have e4 : Row.R ([DV.val (Value.string s0), DV.val (Value.string s1), DV.val (Value.string s2), DV.sl b3 [Kd.b, Kd.i IntKind.i64, Kd.s] r4]) 3 = r4 := rfl
 rw [e0, e1, e2, e3, e4]
 have : z46_v n (Row.S r 1) (Row.S r 2) (Row.S r 3) (Row.N r 4) (Row.R r 4) s0 s1 s2 b3 r4 = some (ordK (dr r).2.1 (kf s0 s1 s2 b3 r4), ()) := z46_q (by have := h.1; unfold big; omega) (by have := h.1; omega) (by omega)
 rw [this]; rfl
theorem of_loop {b0 b6 : Bool} {r1 r7 : Rows} {s3 s4 s5 : ByteArray} (h1 : SmallDs r1) (hl : r1.length ≤ 900) (h7 : r7.length ≤ 500) : ∀ k q : Nat, q + k = r1.length → ∀ f (b11 : Bool) (r12 : Rows), k < f → r12.length ≤ q → SmallDs r12 →
  ∃ b rows, z8_l5 n b0 r1 true s3 s4 s5 b6 r7 f b11 r12 (q : Int) = some ((b, rows), (((b0, r1), (true, ())), ((s3, (s4, (s5, ((b6, r7), ())))), ()))) ∧
   rows.map dr = r12.map dr ++ ((r1.drop q).map dr).filter (isOf (kf s3 s4 s5 b6 r7)) ∧ SmallDs rows ∧ rows.length ≤ r1.length := by
 intro k
 induction k with
 |zero =>
  intro q hq f b11 r12 hf hlen hs
  obtain ⟨f, rfl⟩ : ∃ z, f = z + 1 := ⟨f - 1, by omega⟩
  rw [z8_s5, List.drop_eq_nil_of_le (show r1.length ≤ q by omega)]
  have g1 : ¬ ((q : Int) < (r1.length : Int)) := by omega
  simp only [g1, decide_false, cond_false]
  exact ⟨b11, r12, rfl, by simp, hs, by omega⟩
 |succ k ih =>
  intro q hq f b11 r12 hf hlen hs
  obtain ⟨f, rfl⟩ : ∃ z, f = z + 1 := ⟨f - 1, by omega⟩
  have hlt : q < r1.length := by omega
  have g1 : (q : Int) < (r1.length : Int) := by omega
  have g0 : (0 : Int) ≤ (q : Int) := by omega
  have hx := h1 _ (List.getElem_mem hlt)
  rw [z8_s5, List.drop_eq_getElem_cons hlt, List.map_cons, wrap_succ (show q < big by unfold big; omega), List.filter_cons]
  simp only [g1, g0, decide_true, cond_true, if_true, Int.toNat_natCast, getD_get hlt, of_test hn hx h7, obind_some]
  cases ht : isOf (kf s3 s4 s5 b6 r7) (dr r1[q]) with
  |false =>
   simp only [cond_false]
   exact ih (q + 1) (by omega) f b11 r12 (by omega) (by omega) hs
  |true =>
   obtain ⟨b, rows, o1, o2, o3⟩ := own_q hn (j0 := Row.I r1[q] 0) (s1 := Row.S r1[q] 1) (s2 := Row.S r1[q] 2) (s3 := Row.S r1[q] 3) hx.1 hx.2.1 hx.2.2.1 hx.2.2.2.1 hx.2.2.2.2
   have hsm : SmallD (rowD (Row.I r1[q] 0) (Row.S r1[q] 1) (Row.S r1[q] 2) (Row.S r1[q] 3) (Row.N r1[q] 4) (Row.R r1[q] 4) b rows) := by
    refine ⟨hx.1, hx.2.1, smallL_kr o2 hx.2.2.1, ?_, o3⟩
    have := congrArg List.length o2
    simp only [List.length_map] at this
    show rows.length ≤ 500
    have := hx.2.2.2.1
    omega
   have hdr : dr (rowD (Row.I r1[q] 0) (Row.S r1[q] 1) (Row.S r1[q] 2) (Row.S r1[q] 3) (Row.N r1[q] 4) (Row.R r1[q] 4) b rows) = dr r1[q] := by rw [dr_rowD, o2]; rfl
   have c1 : (r12.length + 1) * 104 ≤ 140737488355328 := by omega
   simp only [cond_true, o1, obind_some, List.length_cons, List.length_nil, Nat.zero_add, c1, if_true, appX]
   obtain ⟨b', rows', e1, e2, e3, e4⟩ := ih (q + 1) (by omega) f (b11 && false) (r12 ++ [rowD (Row.I r1[q] 0) (Row.S r1[q] 1) (Row.S r1[q] 2) (Row.S r1[q] 3) (Row.N r1[q] 4) (Row.R r1[q] 4) b rows]) (by omega) (by rw [List.length_append]; simp; omega) (fun r hr => by
    rcases List.mem_append.1 hr with hr | hr
    ·exact hs r hr
    ·rw [List.mem_singleton] at hr; subst hr; exact hsm)
   refine ⟨b', rows', e1, ?_, e3, e4⟩
   rw [e2, List.map_append, List.map_cons, List.map_nil, hdr, List.append_assoc]; rfl
theorem of_q {b3 b5 : Bool} {r4 r6 : Rows} {s0 s1 s2 : ByteArray} (h6 : SmallDs r6) (hl : r6.length ≤ 900) (h4 : r4.length ≤ 500) :
  ∃ b rows, z36_v n s0 s1 s2 b3 r4 b5 r6 true = some ((b, rows), (((b5, r6), (true, ())), ())) ∧ rows.map dr = (r6.map dr).filter (isOf (kf s0 s1 s2 b3 r4)) ∧ SmallDs rows ∧ rows.length ≤ r6.length := by
 rw [z36_e, z8_e, z14_e]
 simp only [obind_some]
 have e0 : (!Row.B ([DV.sl b5 [Kd.i IntKind.i64, Kd.s, Kd.s, Kd.s, Kd.sl [Kd.b, Kd.i IntKind.i64, Kd.s], Kd.sl [Kd.s, Kd.s, Kd.s, Kd.sl [Kd.b, Kd.i IntKind.i64, Kd.s]]] r6, DV.val (Value.bool true)]) 1) = false := rfl
 rw [e0, cond_false]
 obtain ⟨b, rows, e1, e2, e3, e4⟩ := of_loop hn (b0 := b5) (b6 := b3) (r1 := r6) (r7 := r4) (s3 := s0) (s4 := s1) (s5 := s2) h6 hl h4 r6.length 0 (by omega) n true [] (by omega) (Nat.le_refl _) (fun r hr => by cases hr)
 rw [show ((0 : Nat) : Int) = 0 from rfl] at e1
 rw [e1]
 exact ⟨b, rows, rfl, by simpa using e2, e3, e4⟩
end
def isUses (f : KF) (d : KD) : Bool := hasK f d.2.2
section
variable {n : Nat} (hn : 1000 < n)
include hn
theorem uses_test {r : Row} {s0 s1 s2 : ByteArray} {b3 : Bool} {r4 : Rows} (h : SmallD r) (h4 : r4.length < big) (h4n : r4.length < n) :
  z11_v n (Row.I r 0) (Row.S r 1) (Row.S r 2) (Row.S r 3) (Row.N r 4) (Row.R r 4) (Row.N r 5) (Row.R r 5) ([DV.val (Value.string s0), DV.val (Value.string s1), DV.val (Value.string s2), DV.sl b3 [Kd.b, Kd.i IntKind.i64, Kd.s] r4]) = some (isUses (kf s0 s1 s2 b3 r4) (dr r), ()) := by
 rw [z11_e]
 have e0 : Row.S ([DV.val (Value.string s0), DV.val (Value.string s1), DV.val (Value.string s2), DV.sl b3 [Kd.b, Kd.i IntKind.i64, Kd.s] r4]) 0 = s0 := rfl
 have e1 : Row.S ([DV.val (Value.string s0), DV.val (Value.string s1), DV.val (Value.string s2), DV.sl b3 [Kd.b, Kd.i IntKind.i64, Kd.s] r4]) 1 = s1 := rfl
 have e2 : Row.S ([DV.val (Value.string s0), DV.val (Value.string s1), DV.val (Value.string s2), DV.sl b3 [Kd.b, Kd.i IntKind.i64, Kd.s] r4]) 2 = s2 := rfl
 have e3 : Row.N ([DV.val (Value.string s0), DV.val (Value.string s1), DV.val (Value.string s2), DV.sl b3 [Kd.b, Kd.i IntKind.i64, Kd.s] r4]) 3 = b3 := rfl
 have e4 : Row.R ([DV.val (Value.string s0), DV.val (Value.string s1), DV.val (Value.string s2), DV.sl b3 [Kd.b, Kd.i IntKind.i64, Kd.s] r4]) 3 = r4 := rfl
 rw [e0, e1, e2, e3, e4]
 rw [has_q hn (b0 := Row.N r 5) (b5 := b3) (r1 := Row.R r 5) (r6 := r4) (s2 := s0) (s3 := s1) (s4 := s2) h4 h4n (by have := h.2.2.2.1; omega)]; rfl
theorem uses_loop {b0 b6 : Bool} {r1 r7 : Rows} {s3 s4 s5 : ByteArray} (h1 : SmallDs r1) (hl : r1.length ≤ 900) (h7 : r7.length < big) (h7n : r7.length < n) : ∀ k q : Nat, q + k = r1.length → ∀ f (b11 : Bool) (r12 : Rows), k < f → r12.length ≤ q → SmallDs r12 →
  ∃ b rows, z6_l5 n b0 r1 true s3 s4 s5 b6 r7 f b11 r12 (q : Int) = some ((b, rows), (((b0, r1), (true, ())), ((s3, (s4, (s5, ((b6, r7), ())))), ()))) ∧
   rows.map dr = r12.map dr ++ ((r1.drop q).map dr).filter (isUses (kf s3 s4 s5 b6 r7)) ∧ SmallDs rows ∧ rows.length ≤ r1.length := by
 intro k
 induction k with
 |zero =>
  intro q hq f b11 r12 hf hlen hs
  obtain ⟨f, rfl⟩ : ∃ z, f = z + 1 := ⟨f - 1, by omega⟩
  rw [z6_s5, List.drop_eq_nil_of_le (show r1.length ≤ q by omega)]
  have g1 : ¬ ((q : Int) < (r1.length : Int)) := by omega
  simp only [g1, decide_false, cond_false]
  exact ⟨b11, r12, rfl, by simp, hs, by omega⟩
 |succ k ih =>
  intro q hq f b11 r12 hf hlen hs
  obtain ⟨f, rfl⟩ : ∃ z, f = z + 1 := ⟨f - 1, by omega⟩
  have hlt : q < r1.length := by omega
  have g1 : (q : Int) < (r1.length : Int) := by omega
  have g0 : (0 : Int) ≤ (q : Int) := by omega
  have hx := h1 _ (List.getElem_mem hlt)
  rw [z6_s5, List.drop_eq_getElem_cons hlt, List.map_cons, wrap_succ (show q < big by unfold big; omega), List.filter_cons]
  simp only [g1, g0, decide_true, cond_true, if_true, Int.toNat_natCast, getD_get hlt, uses_test hn hx h7 h7n, obind_some]
  cases ht : isUses (kf s3 s4 s5 b6 r7) (dr r1[q]) with
  |false =>
   simp only [cond_false]
   exact ih (q + 1) (by omega) f b11 r12 (by omega) (by omega) hs
  |true =>
   obtain ⟨b, rows, o1, o2, o3⟩ := own_q hn (j0 := Row.I r1[q] 0) (s1 := Row.S r1[q] 1) (s2 := Row.S r1[q] 2) (s3 := Row.S r1[q] 3) hx.1 hx.2.1 hx.2.2.1 hx.2.2.2.1 hx.2.2.2.2
   have hsm : SmallD (rowD (Row.I r1[q] 0) (Row.S r1[q] 1) (Row.S r1[q] 2) (Row.S r1[q] 3) (Row.N r1[q] 4) (Row.R r1[q] 4) b rows) := by
    refine ⟨hx.1, hx.2.1, smallL_kr o2 hx.2.2.1, ?_, o3⟩
    have := congrArg List.length o2
    simp only [List.length_map] at this
    show rows.length ≤ 500
    have := hx.2.2.2.1
    omega
   have hdr : dr (rowD (Row.I r1[q] 0) (Row.S r1[q] 1) (Row.S r1[q] 2) (Row.S r1[q] 3) (Row.N r1[q] 4) (Row.R r1[q] 4) b rows) = dr r1[q] := by rw [dr_rowD, o2]; rfl
   have c1 : (r12.length + 1) * 104 ≤ 140737488355328 := by omega
   simp only [cond_true, o1, obind_some, List.length_cons, List.length_nil, Nat.zero_add, c1, if_true, appX]
   obtain ⟨b', rows', e1, e2, e3, e4⟩ := ih (q + 1) (by omega) f (b11 && false) (r12 ++ [rowD (Row.I r1[q] 0) (Row.S r1[q] 1) (Row.S r1[q] 2) (Row.S r1[q] 3) (Row.N r1[q] 4) (Row.R r1[q] 4) b rows]) (by omega) (by rw [List.length_append]; simp; omega) (fun r hr => by
    rcases List.mem_append.1 hr with hr | hr
    ·exact hs r hr
    ·rw [List.mem_singleton] at hr; subst hr; exact hsm)
   refine ⟨b', rows', e1, ?_, e3, e4⟩
   rw [e2, List.map_append, List.map_cons, List.map_nil, hdr, List.append_assoc]; rfl
theorem uses_q {b3 b5 : Bool} {r4 r6 : Rows} {s0 s1 s2 : ByteArray} (h6 : SmallDs r6) (hl : r6.length ≤ 900) (h4 : r4.length < big) (h4n : r4.length < n) :
  ∃ b rows, z25_v n s0 s1 s2 b3 r4 b5 r6 true = some ((b, rows), (((b5, r6), (true, ())), ())) ∧ rows.map dr = (r6.map dr).filter (isUses (kf s0 s1 s2 b3 r4)) ∧ SmallDs rows ∧ rows.length ≤ r6.length := by
 rw [z25_e, z6_e, z14_e]
 simp only [obind_some]
 have e0 : (!Row.B ([DV.sl b5 [Kd.i IntKind.i64, Kd.s, Kd.s, Kd.s, Kd.sl [Kd.b, Kd.i IntKind.i64, Kd.s], Kd.sl [Kd.s, Kd.s, Kd.s, Kd.sl [Kd.b, Kd.i IntKind.i64, Kd.s]]] r6, DV.val (Value.bool true)]) 1) = false := rfl
 rw [e0, cond_false]
 obtain ⟨b, rows, e1, e2, e3, e4⟩ := uses_loop hn (b0 := b5) (b6 := b3) (r1 := r6) (r7 := r4) (s3 := s0) (s4 := s1) (s5 := s2) h6 hl h4 h4n r6.length 0 (by omega) n true [] (by omega) (Nat.le_refl _) (fun r hr => by cases hr)
 rw [show ((0 : Nat) : Int) = 0 from rfl] at e1
 rw [e1]
 exact ⟨b, rows, rfl, by simpa using e2, e3, e4⟩
end
@[reducible] def headR (r : Row) : Row := [DV.val (Value.string (Row.S r 1)), DV.val (Value.string (Row.S r 2)), DV.val (Value.string (Row.S r 3)), DV.sl (Row.N r 4) [Kd.b, Kd.i IntKind.i64, Kd.s] (Row.R r 4)]
section
variable {n : Nat} (hn : 1000 < n)
include hn
theorem heads_loop {b0 : Bool} {r1 : Rows} (h1 : SmallDs r1) (hl : r1.length ≤ 500) : ∀ k q : Nat, q + k = r1.length → ∀ f (b : Bool) (r6 : Rows), k < f → r6 = (r1.take q).map headR →
  ∃ b' rows, z21_l5 n b0 r1 true f b r6 (q : Int) = some ((b', rows), (((b0, r1), (true, ())), ())) ∧ Canon (rows.map kr) (r1.map fun r => (dr r).2.1) ∧ rows.length ≤ r1.length ∧ SmallL rows := by
 intro k
 induction k with
 |zero =>
  intro q hq f b r6 hf he
  obtain ⟨f, rfl⟩ : ∃ z, f = z + 1 := ⟨f - 1, by omega⟩
  rw [z21_s5]
  have g1 : ¬ ((q : Int) < (r1.length : Int)) := by omega
  rw [List.take_of_length_le (by omega)] at he
  subst he
  have hs : SmallL (r1.map headR) := fun r hr => by
   obtain ⟨x, hx, rfl⟩ := List.mem_map.1 hr
   exact ⟨(h1 x hx).1, (h1 x hx).2.1⟩
  obtain ⟨y, rows, e1, e2, e3, e4, e5⟩ := sorted_q hn (b0 := b) hs (by rw [List.length_map]; omega)
  simp only [g1, decide_false, cond_false, e1, obind_some]
  rw [List.map_map] at e2
  rw [List.length_map] at e4
  exact ⟨y, rows, rfl, e2, e4, e5⟩
 |succ k ih =>
  intro q hq f b r6 hf he
  obtain ⟨f, rfl⟩ : ∃ z, f = z + 1 := ⟨f - 1, by omega⟩
  have hlt : q < r1.length := by omega
  have g1 : (q : Int) < (r1.length : Int) := by omega
  have g0 : (0 : Int) ≤ (q : Int) := by omega
  have hl6 : r6.length = q := by rw [he, List.length_map, List.length_take]; omega
  have c1 : (r6.length + 1) * 72 ≤ 140737488355328 := by omega
  rw [z21_s5, wrap_succ (show q < big by unfold big; omega)]
  simp only [g1, g0, decide_true, cond_true, if_true, Int.toNat_natCast, getD_get hlt, List.length_cons, List.length_nil, Nat.zero_add, c1, appX]
  refine ih (q + 1) (by omega) f _ _ (by omega) ?_
  rw [he, List.take_succ_eq_append_getElem hlt, List.map_append]; rfl
theorem heads_q {b0 : Bool} {r1 : Rows} (h1 : SmallDs r1) (hl : r1.length ≤ 500) :
  ∃ b' rows, z21_v n b0 r1 true = some ((b', rows), (((b0, r1), (true, ())), ())) ∧ Canon (rows.map kr) (r1.map fun r => (dr r).2.1) ∧ rows.length ≤ r1.length ∧ SmallL rows := by
 rw [z21_e, z14_e]
 simp only [obind_some]
 have e0 : (!Row.B ([DV.sl b0 [Kd.i IntKind.i64, Kd.s, Kd.s, Kd.s, Kd.sl [Kd.b, Kd.i IntKind.i64, Kd.s], Kd.sl [Kd.s, Kd.s, Kd.s, Kd.sl [Kd.b, Kd.i IntKind.i64, Kd.s]]] r1, DV.val (Value.bool true)]) 1) = false := rfl
 rw [e0, cond_false]
 exact heads_loop hn h1 hl r1.length 0 (by omega) n true [] (by omega) rfl
end
end Go.Den
namespace Go.Den
open Go.Proofs
section
variable {α : Type} {c : α → α → Int}
def remO (c : α → α → Int) (f : α) (l : List α) : List α := l.filter fun x => c x f != 0
theorem remO_none (h : IsOrd c) {f k : α} {l : List α} (ha : Asc c (k :: l)) (hk : 0 ≤ c k f) : l.filter (fun x => c x f != 0) = l := by
 rw [List.filter_eq_self]
 intro x hx
 have h1 := (List.pairwise_cons.1 ha).1 x hx
 have h2 : c f k ≤ 0 := by have := h.anti f k; omega
 have h3 := h.le_lt h2 h1
 have h4 := h.anti x f
 have : c x f ≠ 0 := by omega
 simpa using this
theorem remO_eq (h : IsOrd c) {f : α} : ∀ {l : List α}, Asc c l → remO c f l = bif isO c f l then l.take (cntO c f l) ++ l.drop (cntO c f l + 1) else l
 |[], _ => rfl
 |k :: l, ha => by
  have h1 := List.pairwise_cons.1 ha
  have ih := remO_eq h (f := f) (l := l) h1.2
  unfold remO at *
  unfold isO cntO
  rw [List.filter_cons]
  by_cases hk : c k f < 0
  ·have e1 : (c k f != 0) = true := by simp; omega
   rw [e1, if_pos rfl, ih]
   simp only [hk, decide_true, cond_true]
   cases isO c f l <;> simp
  ·simp only [hk, decide_false, cond_false]
   rw [remO_none h ha (by omega)]
   by_cases hz : c k f = 0
   ·have e1 : (c k f != 0) = false := by simp [hz]
    have e2 : (c k f == 0) = true := by simp [hz]
    rw [e1, e2]; simp
   ·have e1 : (c k f != 0) = true := by simpa using hz
    have e2 : (c k f == 0) = false := by simpa using hz
    rw [e1, e2]; simp
theorem remO_asc {f : α} {l : List α} (ha : Asc c l) : Asc c (remO c f l) := List.Pairwise.filter _ ha
theorem remO_lt (h : IsOrd c) {f : α} {l : List α} (ha : Asc c l) : decide ((remO c f l).length < l.length) = isO c f l := by
 rw [remO_eq h ha]
 cases hi : isO c f l with
 |false => rw [cond_false]; simp
 |true =>
  have hlt : cntO c f l < l.length := by
   clear ha
   induction l with
   |nil => cases hi
   |cons k l ih =>
    unfold isO at hi
    unfold cntO
    by_cases hk : c k f < 0
    ·simp only [hk, decide_true, cond_true, List.length_cons] at hi ⊢
     have := ih hi
     omega
    ·simp only [hk, decide_false, cond_false, List.length_cons]; omega
  rw [cond_true, decide_eq_true_eq]
  simp only [List.length_append, List.length_take, List.length_drop]
  omega
theorem cntO_lt {f : α} : ∀ {l : List α}, isO c f l = true → cntO c f l < l.length
 |[], hi => by cases hi
 |k :: l, hi => by
  unfold isO at hi
  unfold cntO
  by_cases hk : c k f < 0
  ·simp only [hk, decide_true, cond_true, List.length_cons] at hi ⊢
   have := cntO_lt hi
   omega
  ·simp only [hk, decide_false, cond_false, List.length_cons]; omega
end
section
variable {n : Nat} (hn : 1000 < n)
include hn
theorem drop_q {j0 : Int} {s1 s2 s3 : ByteArray} {b4 b6 b8 : Bool} {r5 r7 r9 : Rows}
  (h9 : SmallDs r9) (hl9 : r9.length ≤ 900) (ha : Asc ordD (r9.map dr)) (hw9 : b8 = true → r9 = []) :
  ∃ bz rows, z22_v n j0 s1 s2 s3 b4 r5 b6 r7 b8 r9 true = some (isO ordD (j0, kf s1 s2 s3 b4 r5, r7.map kr) (r9.map dr), (((bz, rows), (true, ())), ())) ∧ rows.map dr = remO ordD (j0, kf s1 s2 s3 b4 r5, r7.map kr) (r9.map dr) ∧ SmallDs rows ∧ (bz = true → rows = []) := by
 rw [z22_e, z14_e]
 simp only [obind_some]
 have e0 : (!Row.B ([DV.sl b8 [Kd.i IntKind.i64, Kd.s, Kd.s, Kd.s, Kd.sl [Kd.b, Kd.i IntKind.i64, Kd.s], Kd.sl [Kd.s, Kd.s, Kd.s, Kd.sl [Kd.b, Kd.i IntKind.i64, Kd.s]]] r9, DV.val (Value.bool true)]) 1) = false := rfl
 rw [e0, cond_false, bsD_q hn h9 (by omega) ha, obind_some]
 have hrem := remO_eq ordD_ord (f := (j0, kf s1 s2 s3 b4 r5, r7.map kr)) ha
 cases hi : isO ordD (j0, kf s1 s2 s3 b4 r5, r7.map kr) (r9.map dr) with
 |false =>
  rw [hi, cond_false] at hrem
  exact ⟨b8, r9, rfl, hrem.symm, h9, hw9⟩
 |true =>
  rw [hi, cond_true] at hrem
  have hc := cntO_lt hi
  rw [List.length_map] at hc
  cases b8 with
  |true => have := hw9 rfl; subst this; cases hi
  |false =>
   generalize cntO ordD (j0, kf s1 s2 s3 b4 r5, r7.map kr) (r9.map dr) = c at hc hrem
   have c0 : (Nat.beq 6 6 && Nat.ble r9.length 1000000) = true := by rw [Bool.and_eq_true, Nat.ble_eq]; exact ⟨rfl, by omega⟩
   simp only [cond_true, cond_false, c0, wrap_succ (show c < big by unfold big; omega)]
   have c1 : (0 : Int) ≤ (c : Int) := by omega
   have c2 : (c : Int) < ((c + 1 : Nat) : Int) := by omega
   have c3 : ((c + 1 : Nat) : Int) ≤ (r9.length : Int) := by omega
   simp only [c1, c2, c3, if_true, Int.toNat_natCast, Nat.zero_add]
   have c4 : r9.length - (c + 1 - c) ≤ (r9.take c ++ r9.drop (c + 1)).length := by simp only [List.length_append, List.length_take, List.length_drop]; omega
   rw [if_pos c4]
   have c5 : (Kd.sameL [Kd.i IntKind.i64, Kd.s, Kd.s, Kd.s, Kd.sl [Kd.b, Kd.i IntKind.i64, Kd.s], Kd.sl [Kd.s, Kd.s, Kd.s, Kd.sl [Kd.b, Kd.i IntKind.i64, Kd.s]]] [Kd.i IntKind.i64, Kd.s, Kd.s, Kd.s, Kd.sl [Kd.b, Kd.i IntKind.i64, Kd.s], Kd.sl [Kd.s, Kd.s, Kd.s, Kd.sl [Kd.b, Kd.i IntKind.i64, Kd.s]]] && Nat.ble (r9.length - (c + 1 - c)) (r9.length - (c + 1 - c))) = true := by
    rw [Bool.and_eq_true]; exact ⟨by decide, by simp⟩
   rw [c5, cond_true, List.drop_zero, List.take_of_length_le (by simp only [List.length_append, List.length_take, List.length_drop]; omega)]
   refine ⟨false, _, rfl, ?_, fun r hr => ?_, fun h => by cases h⟩
   ·rw [hrem]; simp only [List.map_append, List.map_take, List.map_drop]
   ·rcases List.mem_append.1 hr with hr | hr
    ·exact h9 r (List.mem_of_mem_take hr)
    ·exact h9 r (List.mem_of_mem_drop hr)
theorem refDrop_loop {j0 : Int} {s1 s2 s3 : ByteArray} {b4 b6 b8 : Bool} {r5 r7 r9 : Rows} (h9 : SmallDs r9) (hl : r9.length ≤ 900) : ∀ k q : Nat, q + k = r9.length → ∀ f (b11 : Bool) (r12 : Rows), k < f → r12.length ≤ q → SmallDs r12 →
  ∃ z rows, z16_l3 n j0 s1 s2 s3 b4 r5 b6 r7 b8 r9 f b11 r12 (q : Int) = some (decide ((rows.length : Int) < (r9.length : Int)), (((z, rows), ()), ())) ∧
   rows.map dr = r12.map dr ++ remO ordD (j0, kf s1 s2 s3 b4 r5, r7.map kr) ((r9.drop q).map dr) ∧ SmallDs rows := by
 intro k
 induction k with
 |zero =>
  intro q hq f b11 r12 hf hlen hs
  obtain ⟨f, rfl⟩ : ∃ z, f = z + 1 := ⟨f - 1, by omega⟩
  rw [z16_s3, List.drop_eq_nil_of_le (show r9.length ≤ q by omega)]
  have g1 : ¬ ((q : Int) < (r9.length : Int)) := by omega
  simp only [g1, decide_false, cond_false]
  exact ⟨b11, r12, rfl, by simp [remO], hs⟩
 |succ k ih =>
  intro q hq f b11 r12 hf hlen hs
  obtain ⟨f, rfl⟩ : ∃ z, f = z + 1 := ⟨f - 1, by omega⟩
  have hlt : q < r9.length := by omega
  have g1 : (q : Int) < (r9.length : Int) := by omega
  have g0 : (0 : Int) ≤ (q : Int) := by omega
  have hx := h9 _ (List.getElem_mem hlt)
  have ho : z31_v n (Row.I r9[q] 0) (Row.S r9[q] 1) (Row.S r9[q] 2) (Row.S r9[q] 3) (Row.N r9[q] 4) (Row.R r9[q] 4) (Row.N r9[q] 5) (Row.R r9[q] 5) j0 s1 s2 s3 b4 r5 b6 r7 = some (ordD (dr r9[q]) (j0, kf s1 s2 s3 b4 r5, r7.map kr), ()) := refCompare_q hn hx.1 hx.2.2.1 hx.2.2.2.1
  rw [z16_s3, List.drop_eq_getElem_cons hlt, List.map_cons, wrap_succ (show q < big by unfold big; omega)]
  unfold remO
  rw [List.filter_cons]
  simp only [g1, g0, decide_true, cond_true, if_true, Int.toNat_natCast, getD_get hlt, ho, obind_some]
  cases ht : (ordD (dr r9[q]) (j0, kf s1 s2 s3 b4 r5, r7.map kr) != 0) with
  |false =>
   simp only [cond_false]
   exact ih (q + 1) (by omega) f b11 r12 (by omega) (by omega) hs
  |true =>
   have c1 : (r12.length + 1) * 104 ≤ 140737488355328 := by omega
   simp only [cond_true, List.length_cons, List.length_nil, Nat.zero_add, c1, if_true, appX]
   obtain ⟨b', rows', e1, e2, e3⟩ := ih (q + 1) (by omega) f (b11 && false) (r12 ++ [rowD (Row.I r9[q] 0) (Row.S r9[q] 1) (Row.S r9[q] 2) (Row.S r9[q] 3) (Row.N r9[q] 4) (Row.R r9[q] 4) (Row.N r9[q] 5) (Row.R r9[q] 5)]) (by omega) (by rw [List.length_append]; simp; omega) (fun r hr => by
    rcases List.mem_append.1 hr with hr | hr
    ·exact hs r hr
    ·rw [List.mem_singleton] at hr; subst hr; exact hx)
   refine ⟨b', rows', e1, ?_, e3⟩
   rw [e2, List.map_append, List.map_cons, List.map_nil, List.append_assoc]; rfl
theorem refDrop_q {j0 : Int} {s1 s2 s3 : ByteArray} {b4 b6 b8 : Bool} {r5 r7 r9 : Rows} (h9 : SmallDs r9) (hl : r9.length ≤ 900) (ha : Asc ordD (r9.map dr)) :
  ∃ z rows, z16_v n j0 s1 s2 s3 b4 r5 b6 r7 b8 r9 = some (isO ordD (j0, kf s1 s2 s3 b4 r5, r7.map kr) (r9.map dr), (((z, rows), ()), ())) ∧
   rows.map dr = remO ordD (j0, kf s1 s2 s3 b4 r5, r7.map kr) (r9.map dr) ∧ SmallDs rows := by
 rw [z16_e]
 obtain ⟨z, rows, e1, e2, e3⟩ := refDrop_loop hn (j0 := j0) (s1 := s1) (s2 := s2) (s3 := s3) (b4 := b4) (b6 := b6) (b8 := b8) (r5 := r5) (r7 := r7) h9 hl r9.length 0 (by omega) n true [] (by omega) (Nat.le_refl _) (fun r hr => by cases hr)
 rw [show ((0 : Nat) : Int) = 0 from rfl] at e1
 rw [List.drop_zero, List.map_nil, List.nil_append] at e2
 refine ⟨z, rows, ?_, e2, e3⟩
 rw [e1, ← remO_lt ordD_ord ha, ← e2, List.length_map, List.length_map]
 have : decide ((rows.length : Int) < (r9.length : Int)) = decide (rows.length < r9.length) := by
  by_cases h : rows.length < r9.length
  ·have h' : (rows.length : Int) < (r9.length : Int) := by omega
   simp [h]
  ·have h' : ¬ (rows.length : Int) < (r9.length : Int) := by omega
   simp [h]
 rw [this]
theorem bclone_q {b0 : Bool} {r1 : Rows} (hl : r1.length ≤ 1000) (hw : b0 = true → r1 = []) : z17_v n b0 r1 true = some ((), (((b0, r1), (true, ())), (((b0, r1), (true, ())), ()))) := by
 rw [z17_e, z14_e]
 simp only [obind_some]
 have e0 : (!Row.B ([DV.sl b0 [Kd.i IntKind.i64, Kd.s, Kd.s, Kd.s, Kd.sl [Kd.b, Kd.i IntKind.i64, Kd.s], Kd.sl [Kd.s, Kd.s, Kd.s, Kd.sl [Kd.b, Kd.i IntKind.i64, Kd.s]]] r1, DV.val (Value.bool true)]) 1) = false := rfl
 rw [e0, cond_false]
 cases b0 with
 |true => have := hw rfl; subst this; rfl
 |false =>
  have c0 : (Nat.beq 6 6 && Nat.ble r1.length 1000000) = true := by rw [Bool.and_eq_true, Nat.ble_eq]; exact ⟨rfl, by omega⟩
  simp only [cond_false, c0, cond_true, Nat.zero_add, Nat.le_refl, if_true, List.drop_zero, List.take_length]
theorem refOf_loop {b3 b5 : Bool} {r4 r6 : Rows} {s0 s1 s2 : ByteArray} (h6 : SmallDs r6) (hl : r6.length ≤ 900) : ∀ k q : Nat, q + k = r6.length → ∀ f (b11 : Bool) (r12 : Rows), k < f → r12.length ≤ q → SmallDs r12 →
  ∃ b rows, z27_l3 n s0 s1 s2 b3 r4 b5 r6 f b11 r12 (q : Int) = some ((b, rows), (((b5, r6), ()), ())) ∧
   rows.map dr = r12.map dr ++ ((r6.drop q).map dr).filter (isOf (kf s0 s1 s2 b3 r4)) ∧ SmallDs rows ∧ rows.length ≤ r6.length := by
 intro k
 induction k with
 |zero =>
  intro q hq f b11 r12 hf hlen hs
  obtain ⟨f, rfl⟩ : ∃ z, f = z + 1 := ⟨f - 1, by omega⟩
  rw [z27_s3, List.drop_eq_nil_of_le (show r6.length ≤ q by omega)]
  have g1 : ¬ ((q : Int) < (r6.length : Int)) := by omega
  simp only [g1, decide_false, cond_false]
  exact ⟨b11, r12, rfl, by simp, hs, by omega⟩
 |succ k ih =>
  intro q hq f b11 r12 hf hlen hs
  obtain ⟨f, rfl⟩ : ∃ z, f = z + 1 := ⟨f - 1, by omega⟩
  have hlt : q < r6.length := by omega
  have g1 : (q : Int) < (r6.length : Int) := by omega
  have g0 : (0 : Int) ≤ (q : Int) := by omega
  have hx := h6 _ (List.getElem_mem hlt)
  have ho : z40_v n (Row.S r6[q] 1) (Row.S r6[q] 2) (Row.S r6[q] 3) (Row.N r6[q] 4) (Row.R r6[q] 4) s0 s1 s2 b3 r4 = some (ordK (dr r6[q]).2.1 (kf s0 s1 s2 b3 r4), ()) := z40_q (by have := hx.1; unfold big; omega) (by have := hx.1; omega)
  rw [z27_s3, List.drop_eq_getElem_cons hlt, List.map_cons, wrap_succ (show q < big by unfold big; omega), List.filter_cons]
  simp only [g1, g0, decide_true, cond_true, if_true, Int.toNat_natCast, getD_get hlt, ho, obind_some]
  cases ht : isOf (kf s0 s1 s2 b3 r4) (dr r6[q]) with
  |false =>
   have ht' : (ordK (dr r6[q]).2.1 (kf s0 s1 s2 b3 r4) == 0) = false := ht
   simp only [ht', cond_false]
   exact ih (q + 1) (by omega) f b11 r12 (by omega) (by omega) hs
  |true =>
   have ht' : (ordK (dr r6[q]).2.1 (kf s0 s1 s2 b3 r4) == 0) = true := ht
   have c1 : (r12.length + 1) * 104 ≤ 140737488355328 := by omega
   simp only [ht', cond_true, List.length_cons, List.length_nil, Nat.zero_add, c1, if_true, appX]
   obtain ⟨b', rows', e1, e2, e3, e4⟩ := ih (q + 1) (by omega) f (b11 && false) (r12 ++ [rowD (Row.I r6[q] 0) (Row.S r6[q] 1) (Row.S r6[q] 2) (Row.S r6[q] 3) (Row.N r6[q] 4) (Row.R r6[q] 4) (Row.N r6[q] 5) (Row.R r6[q] 5)]) (by omega) (by rw [List.length_append]; simp; omega) (fun r hr => by
    rcases List.mem_append.1 hr with hr | hr
    ·exact hs r hr
    ·rw [List.mem_singleton] at hr; subst hr; exact hx)
   refine ⟨b', rows', e1, ?_, e3, e4⟩
   rw [e2, List.map_append, List.map_cons, List.map_nil, List.append_assoc]; rfl
theorem refOf_q {b3 b5 : Bool} {r4 r6 : Rows} {s0 s1 s2 : ByteArray} (h6 : SmallDs r6) (hl : r6.length ≤ 900) :
  ∃ b rows, z27_v n s0 s1 s2 b3 r4 b5 r6 = some ((b, rows), (((b5, r6), ()), ())) ∧ rows.map dr = (r6.map dr).filter (isOf (kf s0 s1 s2 b3 r4)) ∧ SmallDs rows ∧ rows.length ≤ r6.length := by
 rw [z27_e]
 obtain ⟨b, rows, e1, e2, e3, e4⟩ := refOf_loop hn (b3 := b3) (b5 := b5) (r4 := r4) (s0 := s0) (s1 := s1) (s2 := s2) h6 hl r6.length 0 (by omega) n true [] (by omega) (Nat.le_refl _) (fun r hr => by cases hr)
 rw [show ((0 : Nat) : Int) = 0 from rfl] at e1
 exact ⟨b, rows, e1, by simpa using e2, e3, e4⟩
theorem refUses_loop {b3 b5 : Bool} {r4 r6 : Rows} {s0 s1 s2 : ByteArray} (h6 : SmallDs r6) (hl : r6.length ≤ 900) : ∀ k q : Nat, q + k = r6.length → ∀ f (b11 : Bool) (r12 : Rows), k < f → r12.length ≤ q → SmallDs r12 →
  ∃ b rows, z19_l3 n s0 s1 s2 b3 r4 b5 r6 f b11 r12 (q : Int) = some ((b, rows), (((b5, r6), ()), ())) ∧
   rows.map dr = r12.map dr ++ ((r6.drop q).map dr).filter (isUses (kf s0 s1 s2 b3 r4)) ∧ SmallDs rows ∧ rows.length ≤ r6.length := by
 intro k
 induction k with
 |zero =>
  intro q hq f b11 r12 hf hlen hs
  obtain ⟨f, rfl⟩ : ∃ z, f = z + 1 := ⟨f - 1, by omega⟩
  rw [z19_s3, List.drop_eq_nil_of_le (show r6.length ≤ q by omega)]
  have g1 : ¬ ((q : Int) < (r6.length : Int)) := by omega
  simp only [g1, decide_false, cond_false]
  exact ⟨b11, r12, rfl, by simp, hs, by omega⟩
 |succ k ih =>
  intro q hq f b11 r12 hf hlen hs
  obtain ⟨f, rfl⟩ : ∃ z, f = z + 1 := ⟨f - 1, by omega⟩
  have hlt : q < r6.length := by omega
  have g1 : (q : Int) < (r6.length : Int) := by omega
  have g0 : (0 : Int) ≤ (q : Int) := by omega
  have hx := h6 _ (List.getElem_mem hlt)
  have ho : z51_v n (Row.N r6[q] 5) (Row.R r6[q] 5) s0 s1 s2 b3 r4 = some (isUses (kf s0 s1 s2 b3 r4) (dr r6[q]), ()) := refHas_q hn hx.2.2.1 (by have := hx.2.2.2.1; omega)
  rw [z19_s3, List.drop_eq_getElem_cons hlt, List.map_cons, wrap_succ (show q < big by unfold big; omega), List.filter_cons]
  simp only [g1, g0, decide_true, cond_true, if_true, Int.toNat_natCast, getD_get hlt, ho, obind_some]
  cases ht : isUses (kf s0 s1 s2 b3 r4) (dr r6[q]) with
  |false =>
   simp only [cond_false]
   exact ih (q + 1) (by omega) f b11 r12 (by omega) (by omega) hs
  |true =>
   have c1 : (r12.length + 1) * 104 ≤ 140737488355328 := by omega
   simp only [cond_true, List.length_cons, List.length_nil, Nat.zero_add, c1, if_true, appX]
   obtain ⟨b', rows', e1, e2, e3, e4⟩ := ih (q + 1) (by omega) f (b11 && false) (r12 ++ [rowD (Row.I r6[q] 0) (Row.S r6[q] 1) (Row.S r6[q] 2) (Row.S r6[q] 3) (Row.N r6[q] 4) (Row.R r6[q] 4) (Row.N r6[q] 5) (Row.R r6[q] 5)]) (by omega) (by rw [List.length_append]; simp; omega) (fun r hr => by
    rcases List.mem_append.1 hr with hr | hr
    ·exact hs r hr
    ·rw [List.mem_singleton] at hr; subst hr; exact hx)
   refine ⟨b', rows', e1, ?_, e3, e4⟩
   rw [e2, List.map_append, List.map_cons, List.map_nil, List.append_assoc]; rfl
theorem refUses_q {b3 b5 : Bool} {r4 r6 : Rows} {s0 s1 s2 : ByteArray} (h6 : SmallDs r6) (hl : r6.length ≤ 900) :
  ∃ b rows, z19_v n s0 s1 s2 b3 r4 b5 r6 = some ((b, rows), (((b5, r6), ()), ())) ∧ rows.map dr = (r6.map dr).filter (isUses (kf s0 s1 s2 b3 r4)) ∧ SmallDs rows ∧ rows.length ≤ r6.length := by
 rw [z19_e]
 obtain ⟨b, rows, e1, e2, e3, e4⟩ := refUses_loop hn (b3 := b3) (b5 := b5) (r4 := r4) (s0 := s0) (s1 := s1) (s2 := s2) h6 hl r6.length 0 (by omega) n true [] (by omega) (Nat.le_refl _) (fun r hr => by cases hr)
 rw [show ((0 : Nat) : Int) = 0 from rfl] at e1
 exact ⟨b, rows, e1, by simpa using e2, e3, e4⟩
theorem refHeads_loop {b0 : Bool} {r1 : Rows} (h1 : SmallDs r1) (hl : r1.length ≤ 500) : ∀ k q : Nat, q + k = r1.length → ∀ f (z : Bool) (acc : Rows), k < f → SmallL acc → acc.length ≤ q →
  ∃ z' rows, z15_l3 n b0 r1 f z acc (q : Int) = some ((z', rows), (((b0, r1), ()), ())) ∧ rows.map kr = sortK (acc.map kr) ((r1.drop q).map fun r => (dr r).2.1) ∧ rows.length ≤ r1.length ∧ SmallL rows := by
 intro k
 induction k with
 |zero =>
  intro q hq f z acc hf ha hlen
  obtain ⟨f, rfl⟩ : ∃ z, f = z + 1 := ⟨f - 1, by omega⟩
  rw [z15_s3, List.drop_eq_nil_of_le (show r1.length ≤ q by omega)]
  have g1 : ¬ ((q : Int) < (r1.length : Int)) := by omega
  simp only [g1, decide_false, cond_false]
  exact ⟨z, acc, rfl, rfl, by omega, ha⟩
 |succ k ih =>
  intro q hq f z acc hf ha hlen
  obtain ⟨f, rfl⟩ : ∃ z, f = z + 1 := ⟨f - 1, by omega⟩
  have hlt : q < r1.length := by omega
  have g1 : (q : Int) < (r1.length : Int) := by omega
  have g0 : (0 : Int) ≤ (q : Int) := by omega
  have hx := h1 _ (List.getElem_mem hlt)
  obtain ⟨z', rows, e1, e2⟩ := with_q hn (b0 := z) (b5 := Row.N r1[q] 4) (r1 := acc) (r6 := Row.R r1[q] 4) (s2 := Row.S r1[q] 1) (s3 := Row.S r1[q] 2) (s4 := Row.S r1[q] 3) ha (by omega)
  rw [z15_s3, List.drop_eq_getElem_cons hlt, List.map_cons, wrap_succ (show q < big by unfold big; omega)]
  simp only [g1, g0, decide_true, cond_true, if_true, Int.toNat_natCast, getD_get hlt, e1, obind_some]
  have hl2 := insK_length (f := kf (Row.S r1[q] 1) (Row.S r1[q] 2) (Row.S r1[q] 3) (Row.N r1[q] 4) (Row.R r1[q] 4)) (acc.map kr)
  rw [← e2, List.length_map, List.length_map] at hl2
  have hsm : SmallL rows := small_ins (r := headR r1[q]) ha ⟨hx.1, hx.2.1⟩ e2
  obtain ⟨z2, rows2, k1, k2, k3, k4⟩ := ih (q + 1) (by omega) f z' rows (by omega) hsm (by omega)
  refine ⟨z2, rows2, k1, ?_, k3, k4⟩
  rw [k2, e2]; rfl
theorem refHeads_q {b0 : Bool} {r1 : Rows} (h1 : SmallDs r1) (hl : r1.length ≤ 500) :
  ∃ z' rows, z15_v n b0 r1 = some ((z', rows), (((b0, r1), ()), ())) ∧ rows.map kr = sortK [] (r1.map fun r => (dr r).2.1) ∧ rows.length ≤ r1.length ∧ SmallL rows := by
 rw [z15_e]
 obtain ⟨b, rows, e1, e2, e3, e4⟩ := refHeads_loop hn (b0 := b0) h1 hl r1.length 0 (by omega) n true [] (by omega) (fun r hr => by cases hr) (Nat.le_refl _)
 rw [show ((0 : Nat) : Int) = 0 from rfl] at e1
 exact ⟨b, rows, e1, by simpa using e2, e3, e4⟩
theorem like16_loop {b0 b2 : Bool} {r1 r3 : Rows} (h1 : SmallDs r1) (hl : r1.length ≤ 900) (he : r1.map dr = r3.map dr) : ∀ k q : Nat, q + k = r1.length → ∀ f, k < f →
  z47_l4 n b0 r1 b2 r3 f (q : Int) = some (true, ()) := by
 have hlen : r1.length = r3.length := by have := congrArg List.length he; simpa using this
 intro k
 induction k with
 |zero =>
  intro q hq f hf
  obtain ⟨f, rfl⟩ : ∃ z, f = z + 1 := ⟨f - 1, by omega⟩
  rw [z47_s4]
  have g1 : ¬ ((q : Int) < (r1.length : Int)) := by omega
  simp only [g1, decide_false, cond_false]
 |succ k ih =>
  intro q hq f hf
  obtain ⟨f, rfl⟩ : ∃ z, f = z + 1 := ⟨f - 1, by omega⟩
  have hlt : q < r1.length := by omega
  have hlt3 : q < r3.length := by omega
  have g1 : (q : Int) < (r1.length : Int) := by omega
  have g2 : (q : Int) < (r3.length : Int) := by omega
  have g0 : (0 : Int) ≤ (q : Int) := by omega
  have hx := h1 _ (List.getElem_mem hlt)
  have hd : dr r1[q] = dr r3[q] := by
   have : (r1.map dr)[q]'(by simpa using hlt) = (r3.map dr)[q]'(by simpa using hlt3) := by simp only [he]
   simpa using this
  have ho : z31_v n (Row.I r1[q] 0) (Row.S r1[q] 1) (Row.S r1[q] 2) (Row.S r1[q] 3) (Row.N r1[q] 4) (Row.R r1[q] 4) (Row.N r1[q] 5) (Row.R r1[q] 5) (Row.I r3[q] 0) (Row.S r3[q] 1) (Row.S r3[q] 2) (Row.S r3[q] 3) (Row.N r3[q] 4) (Row.R r3[q] 4) (Row.N r3[q] 5) (Row.R r3[q] 5) = some (ordD (dr r1[q]) (dr r3[q]), ()) := refCompare_q hn hx.1 hx.2.2.1 hx.2.2.2.1
  rw [← hd, ordD_ord.self] at ho
  rw [z47_s4, wrap_succ (show q < big by unfold big; omega)]
  simp only [g1, g2, g0, decide_true, cond_true, if_true, Int.toNat_natCast, getD_get hlt, getD_get hlt3, ho, obind_some]
  exact ih (q + 1) (by omega) f (by omega)
theorem like16_q {b0 b2 : Bool} {r1 r3 : Rows} (h1 : SmallDs r1) (hl : r1.length ≤ 900) (he : r1.map dr = r3.map dr) :
  z47_v n b0 r1 b2 r3 = some (true, ()) := by
 have hlen : r1.length = r3.length := by have := congrArg List.length he; simpa using this
 rw [z47_e]
 have e1 : ((r1.length : Int) != (r3.length : Int)) = false := by rw [hlen]; simp
 rw [e1, cond_false]
 exact like16_loop hn h1 hl he r1.length 0 (by omega) n (by omega)
end
end Go.Den
namespace Go.Den
open Go.Proofs
@[reducible] def kA : List Kd := [.i .i64, .i .i64, .s, .s, .s, .sl kC, .sl kF]
@[reducible] def actD (r : Row) : Row := [DV.val (Value.int IntKind.i64 (Row.I r 1)), DV.val (Value.string (Row.S r 2)), DV.val (Value.string (Row.S r 3)), DV.val (Value.string (Row.S r 4)), DV.sl (Row.N r 5) [Kd.b, Kd.i IntKind.i64, Kd.s] (Row.R r 5), DV.sl (Row.N r 6) [Kd.s, Kd.s, Kd.s, Kd.sl [Kd.b, Kd.i IntKind.i64, Kd.s]] (Row.R r 6)]
theorem fineA {r : Row} (h : Row.ofKds kA r = true ∧ RowFine r) : Row.ofKds kD (actD r) = true ∧ RowFine (actD r) :=
 ⟨rfl, fine_I (j := 1) h.1 h.2 rfl, fine_S h.2, fine_S h.2, fine_S h.2, fine_sl (j := 5) h.1 h.2 rfl, fine_sl (j := 6) h.1 h.2 rfl, trivial⟩
theorem finesA : ∀ {l : Rows}, RowsFine kA l → RowsFine kD (l.map actD)
 |[], _ => trivial
 |r :: l, h => ⟨(fineA ⟨h.1, h.2.1⟩).1, (fineA ⟨h.1, h.2.1⟩).2, finesA h.2.2⟩
section
variable {n : Nat} (hn : 1000 < n)
include hn
theorem clone_i2_any {b : Bool} {r : Rows} (h : r.length * 32 ≤ 140737488355328) (hw : b = true → r = []) : z18_v n b r = some ((b, r), ()) := by
 rw [z18_e]
 cases b with
 |true => rw [hw rfl]; rfl
 |false =>
  have : (0 + r.length) * 32 ≤ 140737488355328 := by omega
  simp only [cond_false, this, if_true, appX, List.nil_append, Bool.false_and]
theorem own_any {j0 : Int} {s1 s2 s3 : ByteArray} {b4 : Bool} {r5 : Rows} (h5 : r5.length * 32 ≤ 140737488355328) (hw : b4 = true → r5 = []) :
  ∃ b rows, z55_v n j0 s1 s2 s3 b4 r5 true [] = some ((j0, (s1, (s2, (s3, ((b4, r5), ((b, rows), ())))))), ()) ∧ rows.map kr = [] ∧ (b = true → rows = []) := by
 rw [z55_e, clone_i2_any hn h5 hw, obind_some, clone_i3_q hn (Nat.zero_le _) (fun _ => rfl), obind_some]
 exact own_loop hn (m := 0) (L := []) (by omega) (fun k hk => by cases hk) 0 0 (by omega) n true [] (by omega) rfl rfl (fun _ => rfl)
theorem add_any {j0 : Int} {s1 s2 s3 : ByteArray} {b4 b8 : Bool} {r5 r9 : Rows} (h5 : r5.length * 32 ≤ 140737488355328) (hw : b4 = true → r5 = [])
  (h9 : SmallDs r9) (hl9 : r9.length ≤ 900) (ha : Asc ordD (r9.map dr)) (hw9 : b8 = true → r9 = []) :
  ∃ y, z30_v n j0 s1 s2 s3 b4 r5 true [] b8 r9 true = some y := by
 rw [z30_e, z14_e]
 simp only [obind_some]
 have e0 : (!Row.B ([DV.sl b8 [Kd.i IntKind.i64, Kd.s, Kd.s, Kd.s, Kd.sl [Kd.b, Kd.i IntKind.i64, Kd.s], Kd.sl [Kd.s, Kd.s, Kd.s, Kd.sl [Kd.b, Kd.i IntKind.i64, Kd.s]]] r9, DV.val (Value.bool true)]) 1) = false := rfl
 rw [e0, cond_false, bsD_q hn h9 (by omega) ha, obind_some]
 obtain ⟨b, rows, e1, e2, e3⟩ := own_any hn (j0 := j0) (s1 := s1) (s2 := s2) (s3 := s3) h5 hw
 simp only [List.map_nil]
 cases hi : isO ordD (j0, kf s1 s2 s3 b4 r5, []) (r9.map dr) with
 |true => exact ⟨_, rfl⟩
 |false =>
  simp only [Bool.not_false, cond_true]
  cases b8 with
  |true =>
   have := hw9 rfl
   subst this
   simp only [cond_true, e1, obind_some, List.map_nil, cntO]
   exact ⟨_, rfl⟩
  |false =>
   have hc := cntO_le (c := ordD) (j0, kf s1 s2 s3 b4 r5, []) (r9.map dr)
   rw [List.length_map] at hc
   generalize cntO ordD (j0, kf s1 s2 s3 b4 r5, []) (r9.map dr) = c at hc
   have c0 : (Nat.beq 6 6 && Nat.ble r9.length 1000000) = true := by rw [Bool.and_eq_true, Nat.ble_eq]; exact ⟨rfl, by omega⟩
   rw [cond_false, c0, cond_true]
   simp only [e1, obind_some]
   have c1 : (0 : Int) ≤ (c : Int) := by omega
   have c2 : (c : Int) ≤ (r9.length : Int) := by omega
   have c3 : r9.length + 1 ≤ 1000000 := by omega
   simp only [c1, c2, if_true, Int.toNat_natCast, List.length_cons, List.length_nil, Nat.zero_add, c3]
   have c4 : r9.length + 1 ≤ (r9.take c ++ [rowD j0 s1 s2 s3 b4 r5 b rows] ++ r9.drop c).length := by simp only [List.length_append, List.length_take, List.length_drop, List.length_cons, List.length_nil]; omega
   rw [if_pos c4]
   have c5 : (Kd.sameL [Kd.i IntKind.i64, Kd.s, Kd.s, Kd.s, Kd.sl [Kd.b, Kd.i IntKind.i64, Kd.s], Kd.sl [Kd.s, Kd.s, Kd.s, Kd.sl [Kd.b, Kd.i IntKind.i64, Kd.s]]] [Kd.i IntKind.i64, Kd.s, Kd.s, Kd.s, Kd.sl [Kd.b, Kd.i IntKind.i64, Kd.s], Kd.sl [Kd.s, Kd.s, Kd.s, Kd.sl [Kd.b, Kd.i IntKind.i64, Kd.s]]] && Nat.ble (r9.length + 1) (r9.length + 1)) = true := by
    rw [Bool.and_eq_true]; exact ⟨by decide, by simp⟩
   rw [c5, cond_true]
   exact ⟨_, rfl⟩
theorem light_loop {b0 : Bool} {r1 : Rows} (hr : RowsFine kA r1) (hN : szD (r1.map actD) < n) (hN1 : r1.length < n) : ∀ k q : Nat, q + k = r1.length → ∀ f (b : Bool) (r4 : Rows), k < f → q ≤ 200 → r4 = (r1.take q).map actD →
  ∃ z, z42_l3 n b0 r1 f b r4 (q : Int) = some (z, ()) ∧ (z = true → r1.length < 200 ∧ SmallDs (r1.map actD)) := by
 intro k
 induction k with
 |zero =>
  intro q hq f b r4 hf hq2 he
  obtain ⟨f, rfl⟩ : ∃ z, f = z + 1 := ⟨f - 1, by omega⟩
  rw [z42_s3]
  have g1 : ¬ ((q : Int) < (r1.length : Int)) := by omega
  rw [List.take_of_length_le (by omega)] at he
  subst he
  simp only [g1, decide_false, cond_false]
  by_cases g2 : (r1.length : Int) < 200
  ·have hfine := finesA hr
   have w1 : z34_v n b (r1.map actD) 500 = some (sumTo 500 (w16 500) (r1.map actD) 0, ()) := weight16_q (by omega) (by omega) hfine (by rw [List.length_map]; unfold reachBytes; omega) (by omega) (szD_mem hN) (by rw [List.length_map]; omega)
   simp only [g2, decide_true, cond_true, w1, obind_some]
   refine ⟨_, rfl, fun h => ⟨by omega, ?_⟩⟩
   exact (small16 (most := 500) (by omega) (by omega) hfine (of_decide_eq_true h)).1
  ·simp only [g2, decide_false, cond_false]
   exact ⟨false, rfl, fun h => by cases h⟩
 |succ k ih =>
  intro q hq f b r4 hf hq2 he
  obtain ⟨f, rfl⟩ : ∃ z, f = z + 1 := ⟨f - 1, by omega⟩
  have hlt : q < r1.length := by omega
  have g1 : (q : Int) < (r1.length : Int) := by omega
  have g0 : (0 : Int) ≤ (q : Int) := by omega
  have hl6 : r4.length = q := by rw [he, List.length_map, List.length_take]; omega
  have c1 : (r4.length + 1) * 104 ≤ 140737488355328 := by omega
  rw [z42_s3, wrap_succ (show q < big by unfold big; omega)]
  by_cases g2 : (q : Int) < 200
  ·simp only [g1, g0, g2, decide_true, cond_true, if_true, Int.toNat_natCast, getD_get hlt, List.length_cons, List.length_nil, Nat.zero_add, c1, appX]
   refine ih (q + 1) (by omega) f _ _ (by omega) (by omega) ?_
   rw [he, List.take_succ_eq_append_getElem hlt, List.map_append]; rfl
  ·have g3 : ¬ ((r1.length : Int) < 200) := by omega
   simp only [g1, g2, g3, decide_true, decide_false, cond_true, cond_false]
   exact ⟨false, rfl, fun h => by cases h⟩
theorem light_q {b0 : Bool} {r1 : Rows} (hr : RowsFine kA r1) (hN : szD (r1.map actD) < n) (hN1 : r1.length < n) :
  ∃ z, z42_v n b0 r1 = some (z, ()) ∧ (z = true → r1.length < 200 ∧ SmallDs (r1.map actD)) := by
 rw [z42_e]
 exact light_loop hn hr hN hN1 r1.length 0 (by omega) n true [] (by omega) (Nat.zero_le _) rfl
end
end Go.Den
