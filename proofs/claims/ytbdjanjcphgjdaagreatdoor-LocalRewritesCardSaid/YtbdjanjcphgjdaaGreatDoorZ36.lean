import Derived.Test.YtbdjanjcphgjdaaGreatDoorZ34
import Derived.Test.YtbdjanjcphgjdaaGreatDoorZ35
import Derived.Test.YtbdjanjcphgjdaaGreatDoorZ21
set_option linter.unusedVariables false
set_option linter.unusedSimpArgs false
set_option linter.unusedSectionVars false
namespace Go.Den
open Go.Proofs
set_option maxRecDepth 20000
set_option linter.unusedVariables false
set_option linter.unusedSectionVars false
theorem rvars_l {n : Nat} {b0 : Bool} {v : List ByteArray} (hv : v.length ≤ 1900000) : ∀ k q : Nat, q + k = v.length → ∀ (i : Nat) (b : Bool) (acc : List ByteArray), k < i → acc.length = q →
  ∃ b', z8_l3 n b0 (sr v) i b (acc.map tvar) (q : Int) = some ((b', (acc ++ v.drop q).map tvar), ()) := by
 have hb : 4000000 ≤ big := by unfold big; omega
 intro k
 induction k with
 |zero =>
  intro q hq i b acc hi ha
  obtain ⟨i, rfl⟩ : ∃ m, i = m + 1 := ⟨i - 1, by omega⟩
  have hnil : v.drop q = [] := List.drop_eq_nil_of_le (by omega)
  rw [z8_s3, hnil, List.append_nil]
  have h1 : ¬ (q : Int) < ((sr v).length : Int) := by rw [sr_len]; omega
  simp only [h1, decide_false, cond_false]
  exact ⟨b, rfl⟩
 |succ k ih =>
  intro q hq i b acc hi ha
  obtain ⟨i, rfl⟩ : ∃ m, i = m + 1 := ⟨i - 1, by omega⟩
  have hlt : q < v.length := by omega
  have h1 : (q : Int) < ((sr v).length : Int) := by rw [sr_len]; omega
  have hd : v.drop q = v[q] :: v.drop (q + 1) := List.drop_eq_getElem_cons hlt
  have hlen : ((acc.map tvar).length + List.length [tvar v[q]]) * 48 ≤ 140737488355328 := by rw [List.length_map]; show (acc.length + 1) * 48 ≤ _; omega
  have hap : appX (acc.map tvar) [tvar v[q]] = (acc ++ [v[q]]).map tvar := by simp [appX]
  rw [z8_s3, wrap_succ (show q < big by omega)]
  simp only [h1, natj, if_true, decide_true, cond_true, Int.toNat_natCast, sr_get hlt]
  obtain ⟨b', hgo⟩ := ih (q + 1) (by omega) i (b && List.isEmpty [tvar v[q]]) (acc ++ [v[q]]) (by omega) (by simp [ha])
  rw [← hap] at hgo
  rw [show [[DV.val (Value.string v[q]), DV.val (Value.bool false), DV.val (Value.int IntKind.i64 0), DV.val (Value.string (ByteArray.mk #[]))]] = [tvar v[q]] from rfl, if_pos hlen]
  refine ⟨b', hgo.trans ?_⟩
  rw [hd]; simp
theorem rvars_q {n : Nat} {b0 : Bool} {v : List ByteArray} (hv : v.length ≤ 1900000) (hn : 2000000 < n) : ∃ b', z8_v n b0 (sr v) = some ((b', v.map tvar), ()) := by
 rw [z8_e]
 exact rvars_l hv v.length 0 (by omega) n true [] (by omega) rfl
def remB (home : Tm) (a : LitD) : Bool := !decide (a.2.2.2 = zeroT) && !decide (a.2.2.2 = home)
theorem oneL_cons (i : Int) (d : RuleD) (a : LitD) (l : List LitD) (k : Nat) (re : List LitD) (out : List RuleD) : oneL i d (a :: l) k re out =
  bif !remB d.1 a then oneL i d l (k + 1) (re ++ [noAt a]) out
  else oneL i d l (k + 1) [(a.2.2.2, tellP ++ nameD i k, (boundS d.1.1 d.2.2.2.2 (k + 1)).map varT, zeroT)]
   (out ++ [(d.1, askP ++ nameD i k, (boundS d.1.1 d.2.2.2.2 k).map varT, a.2.2.2, re), (a.2.2.2, tellP ++ nameD i k, (boundS d.1.1 d.2.2.2.2 (k + 1)).map varT, d.1, [(d.1, askP ++ nameD i k, (boundS d.1.1 d.2.2.2.2 k).map varT, zeroT), noAt a])]) := by
 unfold remB
 rw [oneL]
 cases decide (a.2.2.2 = zeroT) <;> cases decide (a.2.2.2 = d.1) <;> rfl
theorem Digits_b {n : Nat} {z : Int} (h1 : 0 ≤ z) (h2 : z ≤ 100000) (hn : 100 < n) : z22_v n z = some (itoaB z, ()) := digits_q (by omega) (by omega) hn
section
variable {n : Nat} {j0 : Int} {s1 s4 s5 s8 s11 : ByteArray} {b2 b6 b9 b12 : Bool} {j3 j10 : Int} {r7 r13 : Rows}
theorem Remote_v {q : Nat} (hj : q < r13.length) : z29_v n s1 b2 j3 s4 s5 b6 r7 s8 b9 j10 s11 b12 r13 (q : Int) = some (remB (s1, b2, j3, s4) (litD r13[q]), ()) := by
 have h1 : (q : Int) < (r13.length : Int) := by omega
 have hz : (Row.S r13[q] 6 == ByteArray.mk #[] && (Row.B r13[q] 7 == false && (Row.I r13[q] 8 == 0 && (Row.S r13[q] 9 == ByteArray.mk #[] && true)))) = decide ((litD r13[q]).2.2.2 = zeroT) := sameT_eq (tmAt r13[q] 6) zeroT
 have hh : (Row.S r13[q] 6 == s1 && (Row.B r13[q] 7 == b2 && (Row.I r13[q] 8 == j3 && (Row.S r13[q] 9 == s4 && true)))) = decide ((litD r13[q]).2.2.2 = (s1, b2, j3, s4)) := sameT_eq (tmAt r13[q] 6) (s1, b2, j3, s4)
 rw [z29_e]
 simp only [h1, natj, if_true, Int.toNat_natCast, getD_get hj, hz, hh]
 unfold remB
 cases decide ((litD r13[q]).2.2.2 = zeroT) <;> rfl
theorem rone_l (hn : 2000000 < n) (hB : BodyOk r13) (h7 : r7.length ≤ 1000) (hi0 : 0 ≤ j0) (hi1 : j0 ≤ 1000) : ∀ k q : Nat, q + k = r13.length → ∀ (i : Nat) (b : Bool) (re : Rows) (b' : Bool) (out : Rows), k < i → re.length ≤ q + 1 → out.length ≤ 2 * q →
  ∃ c rows, z75_l4 n j0 s1 b2 j3 s4 s5 b6 r7 s8 b9 j10 s11 b12 r13 i b re (q : Int) b' out = some ((c, rows), ()) ∧
   rows.map ruleD = oneL j0 ((s1, b2, j3, s4), s5, tms r7, (s8, b9, j10, s11), r13.map litD) ((r13.map litD).drop q) q (re.map litD) (out.map ruleD) := by
 have hb : 4000000 ≤ big := by unfold big; omega
 have hl := hB.len
 intro k
 induction k with
 |zero =>
  intro q hq i b re b' out hi hre hout
  obtain ⟨i, rfl⟩ : ∃ m, i = m + 1 := ⟨i - 1, by omega⟩
  have hnil : (r13.map litD).drop q = [] := List.drop_eq_nil_of_le (by rw [List.length_map]; omega)
  rw [z75_s4, hnil]
  have h1 : ¬ (q : Int) < (r13.length : Int) := by omega
  simp only [h1, decide_false, cond_false]
  rw [if_pos (by simp only [List.length_cons, List.length_nil]; omega)]
  refine ⟨_, _, rfl, ?_⟩
  show (out ++ [_]).map ruleD = _
  rw [List.map_append, oneL]
  rfl
 |succ k ih =>
  intro q hq i b re b' out hi hre hout
  obtain ⟨i, rfl⟩ : ∃ m, i = m + 1 := ⟨i - 1, by omega⟩
  have hlt : q < r13.length := by omega
  have h1 : (q : Int) < (r13.length : Int) := by omega
  have hlit := hB.lit r13[q] (List.getElem_mem hlt)
  have hw : IntKind.wrap IntKind.i64 ((q : Int) + 1) = ((q + 1 : Nat) : Int) := wrap_succ (by omega)
  rw [z75_s4, body_drop hlt, oneL_cons]
  simp only [h1, natj, if_true, decide_true, cond_true, Int.toNat_natCast, getD_get hlt, hw]
  rw [Remote_v hlt]
  simp only [obind]
  cases hr : remB (s1, b2, j3, s4) (litD r13[q]) with
  |false =>
   simp only [Bool.not_false, cond_true]
   rw [if_pos (by show (re.length + 1) * 136 ≤ 140737488355328; omega)]
   obtain ⟨c, rows, g1, g2⟩ := ih (q + 1) (by omega) i _ (re ++ [noAtR r13[q]]) b' out (by omega) (by simp; omega) (by omega)
   refine ⟨c, rows, g1, g2.trans ?_⟩
   rw [List.map_append]; rfl
  |true =>
   simp only [Bool.not_true, cond_false]
   have z1 := itoaB_size (z := j0) hi0 (by omega)
   have z2 := itoaB_size (z := (q : Int)) (by omega) (by omega)
   have z3 : (itoaB j0 ++ ByteArray.mk #[46]).size = (itoaB j0).size + 1 := ByteArray.size_append
   have z4 : (itoaB j0 ++ ByteArray.mk #[46] ++ itoaB (q : Int)).size = (itoaB j0 ++ ByteArray.mk #[46]).size + (itoaB (q : Int)).size := ByteArray.size_append
   rw [Digits_b hi0 (by omega) (by omega), Digits_b (z := (q : Int)) (by omega) (by omega) (by omega)]
   simp only [obind]
   rw [if_pos (by omega), if_pos (by omega)]
   obtain ⟨c1, e1⟩ := rBound_q (n := n) (s0 := s1) (b1 := b2) (j2 := j3) (s3 := s4) (s4 := s5) (b5 := b6) (r6 := r7) (s7 := s8) (b8 := b9) (j9 := j10) (s10 := s11) (b11 := b12) (r12 := r13) (j13 := (q : Int)) hn hB
   obtain ⟨c2, e2⟩ := rBound_q (n := n) (s0 := s1) (b1 := b2) (j2 := j3) (s3 := s4) (s4 := s5) (b5 := b6) (r6 := r7) (s7 := s8) (b8 := b9) (j9 := j10) (s10 := s11) (b11 := b12) (r12 := r13) (j13 := ((q + 1 : Nat) : Int)) hn hB
   have l1 := bound_len (r12 := r13) (s0 := s1) (k := q) hB
   have l2 := bound_len (r12 := r13) (s0 := s1) (k := q + 1) hB
   rw [Int.toNat_natCast] at e1 e2
   obtain ⟨c3, e3⟩ := rvars_q (n := n) (b0 := c1) (v := boundS s1 (r13.map litD) q) l1 hn
   obtain ⟨c4, e4⟩ := rvars_q (n := n) (b0 := c2) (v := boundS s1 (r13.map litD) (q + 1)) l2 hn
   rw [e1]
   simp only [obind]
   rw [e3]
   simp only [obind]
   rw [e2]
   simp only [obind]
   rw [e4]
   simp only [obind]
   rw [if_pos (by omega), if_pos (by omega), if_pos (by omega), if_pos (by omega), if_pos (by show (out.length + 2) * 160 ≤ 140737488355328; omega), if_pos (by omega)]
   have hgo := fun bb ob => ih (q + 1) (by omega) i bb [litRow (Row.S r13[q] 6) (Row.B r13[q] 7) (Row.I r13[q] 8) (Row.S r13[q] 9) (tellP ++ (itoaB j0 ++ ByteArray.mk #[46] ++ itoaB (q : Int))) c4 ((boundS s1 (r13.map litD) (q + 1)).map tvar)] ob
    (out ++ [[DV.val (.string s1), DV.val (.bool b2), DV.val (.int .i64 j3), DV.val (.string s4), DV.val (.string (askP ++ (itoaB j0 ++ ByteArray.mk #[46] ++ itoaB (q : Int)))), DV.sl c3 [Kd.s, Kd.b, Kd.i IntKind.i64, Kd.s] ((boundS s1 (r13.map litD) q).map tvar), DV.val (.string (Row.S r13[q] 6)), DV.val (.bool (Row.B r13[q] 7)), DV.val (.int .i64 (Row.I r13[q] 8)), DV.val (.string (Row.S r13[q] 9)), DV.sl (false && List.isEmpty re) [Kd.s, Kd.b, Kd.i IntKind.i64, Kd.s, Kd.s, Kd.sl [Kd.s, Kd.b, Kd.i IntKind.i64, Kd.s], Kd.s, Kd.b, Kd.i IntKind.i64, Kd.s] (appX [] re)],
     [DV.val (.string (Row.S r13[q] 6)), DV.val (.bool (Row.B r13[q] 7)), DV.val (.int .i64 (Row.I r13[q] 8)), DV.val (.string (Row.S r13[q] 9)), DV.val (.string (tellP ++ (itoaB j0 ++ ByteArray.mk #[46] ++ itoaB (q : Int)))), DV.sl c4 [Kd.s, Kd.b, Kd.i IntKind.i64, Kd.s] ((boundS s1 (r13.map litD) (q + 1)).map tvar), DV.val (.string s1), DV.val (.bool b2), DV.val (.int .i64 j3), DV.val (.string s4), DV.sl false [Kd.s, Kd.b, Kd.i IntKind.i64, Kd.s, Kd.s, Kd.sl [Kd.s, Kd.b, Kd.i IntKind.i64, Kd.s], Kd.s, Kd.b, Kd.i IntKind.i64, Kd.s] [litRow s1 b2 j3 s4 (askP ++ (itoaB j0 ++ ByteArray.mk #[46] ++ itoaB (q : Int))) c3 ((boundS s1 (r13.map litD) q).map tvar), noAtR r13[q]]]])
    (by omega) (by simp) (by simp; omega)
   obtain ⟨c, rows, g1, g2⟩ := hgo false _
   refine ⟨c, rows, g1, g2.trans ?_⟩
   have t1 := tms_tvar (boundS s1 (r13.map litD) q)
   have t2 := tms_tvar (boundS s1 (r13.map litD) (q + 1))
   congr 1
   ·show [((Row.S r13[q] 6, Row.B r13[q] 7, Row.I r13[q] 8, Row.S r13[q] 9), tellP ++ nameD j0 (q : Int), tms ((boundS s1 (r13.map litD) (q + 1)).map tvar), zeroT)] = _
    rw [t2]; rfl
   ·rw [List.map_append]
    congr 1
    show [((s1, b2, j3, s4), askP ++ nameD j0 (q : Int), tms ((boundS s1 (r13.map litD) q).map tvar), (Row.S r13[q] 6, Row.B r13[q] 7, Row.I r13[q] 8, Row.S r13[q] 9), re.map litD), ((Row.S r13[q] 6, Row.B r13[q] 7, Row.I r13[q] 8, Row.S r13[q] 9), tellP ++ nameD j0 (q : Int), tms ((boundS s1 (r13.map litD) (q + 1)).map tvar), (s1, b2, j3, s4), [((s1, b2, j3, s4), askP ++ nameD j0 (q : Int), tms ((boundS s1 (r13.map litD) q).map tvar), zeroT), noAt (litD r13[q])])] = _
    rw [t1, t2]; rfl
end
theorem rone_q {n : Nat} {i : Nat} {r : Row} (hn : 2000000 < n) (h : RuleOk n r) (hi : i ≤ 1000) : ∃ c rows, z75_v n (i : Int) (Row.S r 0) (Row.B r 1) (Row.I r 2) (Row.S r 3) (Row.S r 4) (Row.N r 5) (Row.R r 5) (Row.S r 6) (Row.B r 7) (Row.I r 8) (Row.S r 9) (Row.N r 10) (Row.R r 10) = some ((c, rows), ()) ∧
  rows.map ruleD = oneL (i : Int) (ruleD r) (ruleD r).2.2.2.2 0 [] [] := by
 have hB := bodyOk h
 have hl := hB.len
 rw [z75_e]
 exact rone_l (n := n) (j0 := (i : Int)) (s1 := Row.S r 0) (b2 := Row.B r 1) (j3 := Row.I r 2) (s4 := Row.S r 3) (s5 := Row.S r 4) (b6 := Row.N r 5) (r7 := Row.R r 5) (s8 := Row.S r 6) (b9 := Row.B r 7) (j10 := Row.I r 8) (s11 := Row.S r 9) (b12 := Row.N r 10) (r13 := Row.R r 10) hn hB h.len (by omega) (by omega) (Row.R r 10).length 0 (by omega) n true [] true [] (by omega) (by simp) (by simp)
theorem rRewrite_l {n : Nat} {r1 : Rows} {b0 : Bool} (hn : 2000000 < n) (hl : r1.length ≤ 300) (h : ∀ r ∈ r1, RuleOk n r) : ∀ k q : Nat, q + k = r1.length → ∀ (i : Nat) (b : Bool) (out : Rows), k < i → out.length ≤ 2001 * q →
  ∃ c rows, z16_l6 n b0 r1 i b out (q : Int) = some (((c, rows), (0, ())), ()) ∧ rows.map ruleD = out.map ruleD ++ rewL ((r1.drop q).map ruleD) q := by
 have hb : 4000000 ≤ big := by unfold big; omega
 intro k
 induction k with
 |zero =>
  intro q hq i b out hi ho
  obtain ⟨i, rfl⟩ : ∃ m, i = m + 1 := ⟨i - 1, by omega⟩
  have hnil : r1.drop q = [] := List.drop_eq_nil_of_le (by omega)
  rw [z16_s6, hnil]
  have h1 : ¬ (q : Int) < (r1.length : Int) := by omega
  simp only [h1, decide_false, cond_false]
  exact ⟨b, out, rfl, by simp [rewL]⟩
 |succ k ih =>
  intro q hq i b out hi ho
  obtain ⟨i, rfl⟩ : ∃ m, i = m + 1 := ⟨i - 1, by omega⟩
  have hlt : q < r1.length := by omega
  have h1 : (q : Int) < (r1.length : Int) := by omega
  have hd : r1.drop q = r1[q] :: r1.drop (q + 1) := List.drop_eq_getElem_cons hlt
  have hr := h r1[q] (List.getElem_mem hlt)
  obtain ⟨c, rows, g1, g2⟩ := rone_q (i := q) hn hr (by omega)
  have hrl : rows.length ≤ 2001 := by
   have e1 : rows.length = (oneL (q : Int) (ruleD r1[q]) (ruleD r1[q]).2.2.2.2 0 [] []).length := by rw [← g2, List.length_map]
   have e2 := oneL_len (q : Int) (ruleD r1[q]) (ruleD r1[q]).2.2.2.2 0 [] []
   have e3 : (ruleD r1[q]).2.2.2.2.length = (Row.R r1[q] 10).length := by simp [ruleD]
   have e4 := hr.blen
   simp only [List.length_nil] at e2
   omega
  rw [z16_s6, wrap_succ (show q < big by omega)]
  simp only [h1, natj, if_true, decide_true, cond_true, Int.toNat_natCast, getD_get hlt]
  rw [g1]
  simp only [obind]
  rw [if_pos (by omega)]
  obtain ⟨c2, rows2, g3, g4⟩ := ih (q + 1) (by omega) i (b && List.isEmpty rows) (out ++ rows) (by omega) (by rw [List.length_append]; omega)
  refine ⟨c2, rows2, g3, ?_⟩
  rw [g4, hd, List.map_append, g2, List.map_cons, rewL, List.append_assoc]
theorem rRewrite_q {n : Nat} {r1 : Rows} {b0 : Bool} (hn : 2000000 < n) (hl : r1.length ≤ 300) (h : ∀ r ∈ r1, RuleOk n r) :
  (∃ c rows, (progC r1).1 = 0 ∧ z16_v n b0 r1 = some (((c, rows), (0, ())), ()) ∧ rows.map ruleD = rewL (r1.map ruleD) 0) ∨ ((progC r1).1 ≠ 0 ∧ z16_v n b0 r1 = some (((true, []), ((progC r1).1, ())), ())) := by
 rw [z16_e, rProgram_q hn (by omega) h]
 simp only [obind, outP]
 by_cases he : (progC r1).1 = 0
 ·left
  obtain ⟨c, rows, g1, g2⟩ := rRewrite_l (n := n) (b0 := b0) hn hl h r1.length 0 (by omega) n true [] (by omega) (by simp)
  refine ⟨c, rows, he, ?_, by rw [g2]; simp⟩
  rw [he]
  simp only [bne_self_eq_false, cond_false]
  exact g1
 ·right
  have : ((progC r1).1 != 0) = true := by simpa using he
  refine ⟨he, ?_⟩
  rw [this]; rfl
end Go.Den
