import Derived.Test.YtamalelonhdfaaaM3
import Derived.Test.YtamalelonhdfaaaO2
set_option linter.unusedVariables false
set_option linter.unusedSimpArgs false
set_option linter.unusedSectionVars false
/- Heads and bodies; MatchHeads. -/
namespace Go.Den
open Go.Proofs
def nameS (t : Tm) (env : Rows) : Option ByteArray :=
  match value t env with
  | some c => bif sameC c (txt c.2.2) then some c.2.2 else none
  | none => none
@[reducible] def cRow (c : Cn) : Row := [.val (.bool c.1), .val (.int .i64 c.2.1), .val (.string c.2.2)]
def valuesS (env : Rows) : Rows → Option Rows
  | [] => some []
  | t :: l => match value (tmAt t 0) env with
    | some c => match valuesS env l with
      | some r => some (cRow c :: r)
      | none => none
    | none => none
theorem valuesS_len {env : Rows} : ∀ {l r : Rows}, valuesS env l = some r → r.length = l.length
  | [], r, h => by cases h; rfl
  | t :: l, r, h => by
    unfold valuesS at h
    split at h
    · split at h
      · rename_i r' h'
        cases h
        simp [valuesS_len h']
      · cases h
    · cases h
theorem match_name_q {n : Nat} {v s : ByteArray} {b nl : Bool} {i : Int} {env : Rows} (hb : env.length < big) (hn : env.length < n) :
    ∃ z, match_name_v n v b i s nl env = some ((z, ((nameS (v, b, i, s) env).isSome, ())), ()) ∧ ∀ x, nameS (v, b, i, s) env = some x → z = x := by
  rw [match_name_e]
  simp only [match_Value_q hb hn, match_text_q, obind_some]
  unfold nameS
  cases value (v, b, i, s) env with
  | none => exact ⟨noS, rfl, fun x h => by cases h⟩
  | some c =>
    simp only [outC, cond_true]
    cases hs : sameC c (txt c.2.2) with
    | true => unfold sameC txt at hs; simp only at hs; exact ⟨c.2.2, by simp only [hs, cond_true]; rfl, fun x h => by cases h; rfl⟩
    | false => unfold sameC txt at hs; simp only at hs; exact ⟨c.2.2, by simp only [hs, cond_false]; rfl, fun x h => by cases h⟩
theorem ref11_name_q {n : Nat} {v s : ByteArray} {b nl : Bool} {i : Int} {env : Rows} (hb : env.length < big) (hn : env.length < n) :
    ∃ z, ref11_name_v n v b i s nl env = some ((z, ((nameS (v, b, i, s) env).isSome, ())), ()) ∧ ∀ x, nameS (v, b, i, s) env = some x → z = x := by
  rw [ref11_name_e]
  simp only [ref11_Value_q hb hn, ref11_Name_q, obind_some]
  unfold nameS
  cases value (v, b, i, s) env with
  | none => exact ⟨noS, rfl, fun x h => by cases h⟩
  | some c =>
    simp only [outC, Bool.not_true, cond_false]
    cases hs : sameC c (txt c.2.2) with
    | true => unfold sameC txt at hs; simp only at hs; exact ⟨c.2.2, by simp only [hs, Bool.not_true, cond_true, cond_false]; rfl, fun x h => by cases h; rfl⟩
    | false => unfold sameC txt at hs; simp only at hs; exact ⟨noS, by simp only [hs, Bool.not_false, cond_true, cond_false]; rfl, fun x h => by cases h⟩
def outV (nl : Bool) (acc : Rows) : Option Rows → (Bool × Rows) × Bool × Unit
  | some l => ((nl && l.isEmpty, acc ++ l), (true, ()))
  | none => ((true, []), (false, ()))
theorem match_values_loop {n : Nat} {b0 b2 : Bool} {r1 env : Rows} (hb : env.length < big) (hn : env.length < n) (h1b : r1.length ≤ 100000) :
    ∀ k q : Nat, q + k = r1.length → ∀ f nl acc, k < f → acc.length + k ≤ 200000 → match_values_l3 n b0 r1 b2 env f nl acc (q : Int) = some (outV nl acc (valuesS env (r1.drop q)), ()) := by
  intro k
  induction k with
  | zero =>
    intro q hq f nl acc hf ha
    obtain ⟨f, rfl⟩ : ∃ z, f = z + 1 := ⟨f - 1, by omega⟩
    rw [match_values_s3, List.drop_eq_nil_of_le (by omega)]
    have h1 : ¬ ((q : Int) < (r1.length : Int)) := by omega
    simp only [h1, decide_false, cond_false, valuesS, outV, List.isEmpty_nil, Bool.and_true, List.append_nil]
  | succ k ih =>
    intro q hq f nl acc hf ha
    obtain ⟨f, rfl⟩ : ∃ z, f = z + 1 := ⟨f - 1, by omega⟩
    have hlt : q < r1.length := by omega
    have h1 : (q : Int) < (r1.length : Int) := by omega
    have h0 : (0 : Int) ≤ (q : Int) := by omega
    have hl : (acc.length + 1) * 32 ≤ 140737488355328 := by omega
    rw [match_values_s3, List.drop_eq_getElem_cons hlt, wrap_succ (show q < big by unfold big; omega)]
    simp only [h1, h0, decide_true, cond_true, if_true, Int.toNat_natCast, getD_get hlt, match_Value_q hb hn, obind_some, valuesS, tmAt, Nat.zero_add, List.length_cons, List.length_nil, hl, appX, List.isEmpty_cons, Bool.and_false]
    cases hv : value (Row.S r1[q] 0, Row.B r1[q] 1, Row.I r1[q] 2, Row.S r1[q] 3) env with
    | none => rfl
    | some c =>
      simp only [outC, Bool.not_true, cond_false]
      rw [ih (q + 1) (by omega) f false _ (by omega) (by simp only [List.length_append, List.length_cons, List.length_nil]; omega)]
      cases valuesS env (r1.drop (q + 1)) with
      | none => rfl
      | some l => simp [outV]
theorem match_values_q {n : Nat} {b0 b2 : Bool} {r1 env : Rows} (hb : env.length < big) (hn : env.length < n) (h1b : r1.length ≤ 100000) (hn1 : r1.length < n) : match_values_v n b0 r1 b2 env = some (outV true [] (valuesS env r1), ()) := by
  rw [match_values_e]
  exact match_values_loop hb hn h1b r1.length 0 (by omega) n true [] hn1 (by simp only [List.length_nil]; omega)
theorem ref11_values_loop {n : Nat} {b0 b2 : Bool} {r1 env : Rows} (hb : env.length < big) (hn : env.length < n) (h1b : r1.length ≤ 100000) :
    ∀ k q : Nat, q + k = r1.length → ∀ f nl acc, k < f → acc.length + k ≤ 200000 → ref11_values_l3 n b0 r1 b2 env f nl acc (q : Int) = some (outV nl acc (valuesS env (r1.drop q)), ()) := by
  intro k
  induction k with
  | zero =>
    intro q hq f nl acc hf ha
    obtain ⟨f, rfl⟩ : ∃ z, f = z + 1 := ⟨f - 1, by omega⟩
    rw [ref11_values_s3, List.drop_eq_nil_of_le (by omega)]
    have h1 : ¬ ((q : Int) < (r1.length : Int)) := by omega
    simp only [h1, decide_false, cond_false, valuesS, outV, List.isEmpty_nil, Bool.and_true, List.append_nil]
  | succ k ih =>
    intro q hq f nl acc hf ha
    obtain ⟨f, rfl⟩ : ∃ z, f = z + 1 := ⟨f - 1, by omega⟩
    have hlt : q < r1.length := by omega
    have h1 : (q : Int) < (r1.length : Int) := by omega
    have h0 : (0 : Int) ≤ (q : Int) := by omega
    have hl : (acc.length + 1) * 32 ≤ 140737488355328 := by omega
    rw [ref11_values_s3, List.drop_eq_getElem_cons hlt, wrap_succ (show q < big by unfold big; omega)]
    simp only [h1, h0, decide_true, cond_true, if_true, Int.toNat_natCast, getD_get hlt, ref11_Value_q hb hn, obind_some, valuesS, tmAt, Nat.zero_add, List.length_cons, List.length_nil, hl, appX, List.isEmpty_cons, Bool.and_false]
    cases hv : value (Row.S r1[q] 0, Row.B r1[q] 1, Row.I r1[q] 2, Row.S r1[q] 3) env with
    | none => rfl
    | some c =>
      simp only [outC, Bool.not_true, cond_false]
      rw [ih (q + 1) (by omega) f false _ (by omega) (by simp only [List.length_append, List.length_cons, List.length_nil]; omega)]
      cases valuesS env (r1.drop (q + 1)) with
      | none => rfl
      | some l => simp [outV]
theorem ref11_values_q {n : Nat} {b0 b2 : Bool} {r1 env : Rows} (hb : env.length < big) (hn : env.length < n) (h1b : r1.length ≤ 100000) (hn1 : r1.length < n) : ref11_values_v n b0 r1 b2 env = some (outV true [] (valuesS env r1), ()) := by
  rw [ref11_values_e]
  exact ref11_values_loop hb hn h1b r1.length 0 (by omega) n true [] hn1 (by simp only [List.length_nil]; omega)
/-! heads -/
def headS (home to : Tm) (pred : ByteArray) (args env : Rows) : Option Fc :=
  match nameS home env with
  | none => none
  | some by_ => match nameS (orT to home) env with
    | none => none
    | some at_ => match valuesS env args with
      | none => none
      | some l => some (at_, by_, pred, l)
abbrev HeadOut := Option (((ByteArray × ByteArray × ByteArray × (Bool × Rows) × Unit) × Bool × Unit) × Unit)
def outH : Option Fc → HeadOut
  | some f => some (((f.1, (f.2.1, (f.2.2.1, ((f.2.2.2.isEmpty, f.2.2.2), ())))), (true, ())), ())
  | none => some (((noS, (noS, (noS, ((true, []), ())))), (false, ())), ())
section
variable {n : Nat} {s0 s3 s4 s7 s10 : ByteArray} {b1 b5 b8 b11 b13 : Bool} {j2 j9 : Int} {r6 r12 r14 : Rows}
theorem match_Head_q (hb : r14.length < big) (hn : r14.length < n) (h6 : r6.length ≤ 100000) (hn6 : r6.length < n) :
    match_Head_v n s0 b1 j2 s3 s4 b5 r6 s7 b8 j9 s10 b11 r12 b13 r14 = outH (headS (s0, b1, j2, s3) (s7, b8, j9, s10) s4 r6 r14) := by
  rw [match_Head_e]
  obtain ⟨z1, e1, g1⟩ := match_name_q (n := n) (v := s0) (b := b1) (i := j2) (s := s3) (nl := b13) hb hn
  obtain ⟨z2, e2, g2⟩ := match_name_q (n := n) (v := (orT (s7, b8, j9, s10) (s0, b1, j2, s3)).1) (b := (orT (s7, b8, j9, s10) (s0, b1, j2, s3)).2.1) (i := (orT (s7, b8, j9, s10) (s0, b1, j2, s3)).2.2.1) (s := (orT (s7, b8, j9, s10) (s0, b1, j2, s3)).2.2.2) (nl := b13) hb hn
  simp only [e1, match_or_q, e2, match_values_q hb hn h6 hn6, obind_some]
  have eo : ((orT (s7, b8, j9, s10) (s0, b1, j2, s3)).1, (orT (s7, b8, j9, s10) (s0, b1, j2, s3)).2.1, (orT (s7, b8, j9, s10) (s0, b1, j2, s3)).2.2.1, (orT (s7, b8, j9, s10) (s0, b1, j2, s3)).2.2.2) = orT (s7, b8, j9, s10) (s0, b1, j2, s3) := rfl
  rw [eo] at g2 ⊢
  unfold headS
  cases h1 : nameS (s0, b1, j2, s3) r14 with
  | none => rfl
  | some x1 =>
  obtain rfl := g1 x1 h1
  cases h2 : nameS (orT (s7, b8, j9, s10) (s0, b1, j2, s3)) r14 with
  | none => rfl
  | some x2 =>
  obtain rfl := g2 x2 h2
  cases valuesS r14 r6 with
  | none => rfl
  | some l => simp [outV, outH]
theorem ref11_Head_q (hb : r14.length < big) (hn : r14.length < n) (h6 : r6.length ≤ 100000) (hn6 : r6.length < n) :
    ref11_Head_v n s0 b1 j2 s3 s4 b5 r6 s7 b8 j9 s10 b11 r12 b13 r14 = outH (headS (s0, b1, j2, s3) (s7, b8, j9, s10) s4 r6 r14) := by
  rw [ref11_Head_e]
  obtain ⟨z1, e1, g1⟩ := ref11_name_q (n := n) (v := s0) (b := b1) (i := j2) (s := s3) (nl := b13) hb hn
  obtain ⟨z2, e2, g2⟩ := ref11_name_q (n := n) (v := s7) (b := b8) (i := j9) (s := s10) (nl := b13) hb hn
  simp only [e1, ref11_none_q, e2, ref11_values_q hb hn h6 hn6, obind_some]
  unfold headS orT
  cases hno : nilT (s7, b8, j9, s10) with
  | true =>
    simp only [cond_true]
    cases h1 : nameS (s0, b1, j2, s3) r14 with
    | none => rfl
    | some x1 =>
    obtain rfl := g1 x1 h1
    cases valuesS r14 r6 with
    | none => rfl
    | some l => simp [outV, outH]
  | false =>
    simp only [cond_false]
    cases h1 : nameS (s0, b1, j2, s3) r14 with
    | none => rfl
    | some x1 =>
    obtain rfl := g1 x1 h1
    cases h2 : nameS (s7, b8, j9, s10) r14 with
    | none => rfl
    | some x2 =>
    obtain rfl := g2 x2 h2
    cases valuesS r14 r6 with
    | none => rfl
    | some l => simp [outV, outH]
/-! bodies -/
@[reducible] def fRow (f : Fc) : Row := [.val (.string f.1), .val (.string f.2.1), .val (.string f.2.2.1), .sl f.2.2.2.isEmpty [Kd.b, Kd.i IntKind.i64, Kd.s] f.2.2.2]
def bodyOne (home : Tm) (env : Rows) (r : Row) : Option Fc :=
  match nameS (orT (tmAt r 6) home) env with
  | none => none
  | some at_ => match nameS (orT (tmAt r 0) (orT (tmAt r 6) home)) env with
    | none => none
    | some by_ => match valuesS env (Row.R r 5) with
      | none => none
      | some l => some (at_, by_, Row.S r 4, l)
def bodyS (home : Tm) (env : Rows) : Rows → Option Rows
  | [] => some []
  | r :: l => match bodyOne home env r with
    | none => none
    | some f => match bodyS home env l with
      | none => none
      | some m => some (fRow f :: m)
theorem match_Body_loop (hb : r14.length < big) (hn : r14.length < n) (h12 : r12.length ≤ 100000) (ha : ∀ r ∈ r12, (Row.R r 5).length ≤ 100000 ∧ (Row.R r 5).length < n) :
    ∀ k q : Nat, q + k = r12.length → ∀ f nl acc, k < f → acc.length + k ≤ 200000 → match_Body_l3 n s0 b1 j2 s3 s4 b5 r6 s7 b8 j9 s10 b11 r12 b13 r14 f nl acc (q : Int) = some (outV nl acc (bodyS (s0, b1, j2, s3) r14 (r12.drop q)), ()) := by
  intro k
  induction k with
  | zero =>
    intro q hq f nl acc hf hacc
    obtain ⟨f, rfl⟩ : ∃ z, f = z + 1 := ⟨f - 1, by omega⟩
    rw [match_Body_s3, List.drop_eq_nil_of_le (by omega)]
    have h1 : ¬ ((q : Int) < (r12.length : Int)) := by omega
    simp only [h1, decide_false, cond_false, bodyS, outV, List.isEmpty_nil, Bool.and_true, List.append_nil]
  | succ k ih =>
    intro q hq f nl acc hf hacc
    obtain ⟨f, rfl⟩ : ∃ z, f = z + 1 := ⟨f - 1, by omega⟩
    have hlt : q < r12.length := by omega
    have h1 : (q : Int) < (r12.length : Int) := by omega
    have h0 : (0 : Int) ≤ (q : Int) := by omega
    have hl : (acc.length + 1) * 72 ≤ 140737488355328 := by omega
    have hr := ha _ (List.getElem_mem hlt)
    rw [match_Body_s3, List.drop_eq_getElem_cons hlt, wrap_succ (show q < big by unfold big; omega)]
    simp only [h1, h0, decide_true, cond_true, if_true, Int.toNat_natCast, getD_get hlt, match_or_q, obind_some, match_values_q hb hn hr.1 hr.2]
    have eo : ∀ t : Tm, (t.1, t.2.1, t.2.2.1, t.2.2.2) = t := fun t => rfl
    obtain ⟨z1, e1, g1⟩ := match_name_q (n := n) (v := (orT (tmAt r12[q] 6) (s0, b1, j2, s3)).1) (b := (orT (tmAt r12[q] 6) (s0, b1, j2, s3)).2.1) (i := (orT (tmAt r12[q] 6) (s0, b1, j2, s3)).2.2.1) (s := (orT (tmAt r12[q] 6) (s0, b1, j2, s3)).2.2.2) (nl := b13) hb hn
    obtain ⟨z2, e2, g2⟩ := match_name_q (n := n) (v := (orT (tmAt r12[q] 0) (orT (tmAt r12[q] 6) (s0, b1, j2, s3))).1) (b := (orT (tmAt r12[q] 0) (orT (tmAt r12[q] 6) (s0, b1, j2, s3))).2.1) (i := (orT (tmAt r12[q] 0) (orT (tmAt r12[q] 6) (s0, b1, j2, s3))).2.2.1) (s := (orT (tmAt r12[q] 0) (orT (tmAt r12[q] 6) (s0, b1, j2, s3))).2.2.2) (nl := b13) hb hn
    rw [eo] at g1 g2 e1 e2
    have m6 : (Row.S r12[q] 6, Row.B r12[q] 7, Row.I r12[q] 8, Row.S r12[q] 9) = tmAt r12[q] 6 := rfl
    have m0 : (Row.S r12[q] 0, Row.B r12[q] 1, Row.I r12[q] 2, Row.S r12[q] 3) = tmAt r12[q] 0 := rfl
    rw [m6]
    rw [e1]
    simp only [obind_some, eo, m0]
    rw [e2]
    simp only [obind_some, bodyS, bodyOne]
    cases h1' : nameS (orT (tmAt r12[q] 6) (s0, b1, j2, s3)) r14 with
    | none => rfl
    | some x1 =>
    obtain rfl := g1 x1 h1'
    cases h2' : nameS (orT (tmAt r12[q] 0) (orT (tmAt r12[q] 6) (s0, b1, j2, s3))) r14 with
    | none => rfl
    | some x2 =>
    obtain rfl := g2 x2 h2'
    cases hv : valuesS r14 (Row.R r12[q] 5) with
    | none => rfl
    | some l =>
      simp only [outV, Option.isSome_some, Bool.not_true, cond_false, List.length_cons, List.length_nil, Nat.zero_add, hl, if_true, appX, List.isEmpty_cons, Bool.and_false, List.nil_append, Bool.true_and]
      rw [ih (q + 1) (by omega) f false _ (by omega) (by simp only [List.length_append, List.length_cons, List.length_nil]; omega)]
      cases bodyS (s0, b1, j2, s3) r14 (r12.drop (q + 1)) with
      | none => rfl
      | some m => simp [outV]
theorem match_Body_q (hb : r14.length < big) (hn : r14.length < n) (h12 : r12.length ≤ 100000) (hn12 : r12.length < n) (ha : ∀ r ∈ r12, (Row.R r 5).length ≤ 100000 ∧ (Row.R r 5).length < n) :
    match_Body_v n s0 b1 j2 s3 s4 b5 r6 s7 b8 j9 s10 b11 r12 b13 r14 = some (outV true [] (bodyS (s0, b1, j2, s3) r14 r12), ()) := by
  rw [match_Body_e]
  exact match_Body_loop hb hn h12 ha r12.length 0 (by omega) n true [] hn12 (by simp only [List.length_nil]; omega)
end
end Go.Den
