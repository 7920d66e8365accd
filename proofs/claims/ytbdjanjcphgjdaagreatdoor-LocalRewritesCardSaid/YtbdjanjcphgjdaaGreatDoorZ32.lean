import Derived.Test.YtbdjanjcphgjdaaGreatDoorZ31
set_option linter.unusedVariables false
set_option linter.unusedSimpArgs false
set_option linter.unusedSectionVars false
namespace Go.Den
open Go.Proofs
set_option maxRecDepth 20000
set_option linter.unusedVariables false
set_option linter.unusedSectionVars false
def zeroT : Tm := (noS, false, 0, noS)
def varT (s : ByteArray) : Tm := (s, false, 0, noS)
def itoaB (z : Int) : ByteArray := ⟨(Go.Lib.itoa z).toArray⟩
@[reducible] def askP : ByteArray := ByteArray.mk #[126, 97, 115, 107]
@[reducible] def tellP : ByteArray := ByteArray.mk #[126, 116, 101, 108, 108]
def nameD (i k : Int) : ByteArray := itoaB i ++ ByteArray.mk #[46] ++ itoaB k
def noAt (l : LitD) : LitD := (l.1, l.2.1, l.2.2.1, zeroT)
def oneL (i : Int) (d : RuleD) : List LitD → Nat → List LitD → List RuleD → List RuleD
 |[], _, re, out => out ++ [(d.1, d.2.1, d.2.2.1, d.2.2.2.1, re)]
 |l :: t, k, re, out =>
  bif decide (l.2.2.2 = zeroT) then oneL i d t (k + 1) (re ++ [noAt l]) out
  else bif decide (l.2.2.2 = d.1) then oneL i d t (k + 1) (re ++ [noAt l]) out
  else oneL i d t (k + 1) [(l.2.2.2, tellP ++ nameD i k, (boundS d.1.1 d.2.2.2.2 (k + 1)).map varT, zeroT)]
   (out ++ [(d.1, askP ++ nameD i k, (boundS d.1.1 d.2.2.2.2 k).map varT, l.2.2.2, re), (l.2.2.2, tellP ++ nameD i k, (boundS d.1.1 d.2.2.2.2 (k + 1)).map varT, d.1, [(d.1, askP ++ nameD i k, (boundS d.1.1 d.2.2.2.2 k).map varT, zeroT), noAt l])])
theorem tms_tvar (v : List ByteArray) : tms (v.map tvar) = v.map varT := by
 unfold tms; rw [List.map_map]; rfl
theorem own_map (l : Rows) : (l.map ownR).map litD = l.map litD := by
 rw [List.map_map]; rfl
theorem Itoa_b {n : Nat} {z : Int} (h1 : 0 ≤ z) (h2 : z ≤ 100000) : strconv_Itoa_v n z = some (itoaB z, ()) := by
 unfold strconv_Itoa_v
 rw [decide_eq_true (show -9223372036854775808 ≤ z by omega), decide_eq_true (show z ≤ 9223372036854775807 by omega)]; rfl
theorem itoaB_size {z : Int} (h1 : 0 ≤ z) (h2 : z ≤ 100000) : (itoaB z).size ≤ 40 := itoa_size (by omega) (by omega)
@[reducible] def litRow (s : ByteArray) (b : Bool) (z : Int) (s' p : ByteArray) (nl : Bool) (l : Rows) : Row := [DV.val (.string s), DV.val (.bool b), DV.val (.int .i64 z), DV.val (.string s'), DV.val (.string p), DV.sl nl [Kd.s, Kd.b, Kd.i IntKind.i64, Kd.s] l, DV.val (.string (ByteArray.mk #[])), DV.val (.bool false), DV.val (.int .i64 0), DV.val (.string (ByteArray.mk #[]))]
@[reducible] def noAtR (x : Row) : Row := litRow (Row.S x 0) (Row.B x 1) (Row.I x 2) (Row.S x 3) (Row.S x 4) (Row.N x 5) (Row.R x 5)
section
variable {n : Nat} {j0 : Int} {s1 s4 s5 s8 s11 : ByteArray} {b2 b6 b9 b12 : Bool} {j3 j10 : Int} {r7 r13 : Rows}
theorem one_l (hn : 2000000 < n) (hB : BodyOk r13) (h7 : r7.length ≤ 1000) (hi0 : 0 ≤ j0) (hi1 : j0 ≤ 1000) : ∀ k q : Nat, q + k = r13.length → ∀ (i : Nat) (b : Bool) (re : Rows) (b' : Bool) (out : Rows), k < i → re.length ≤ q + 1 → (∀ x ∈ re, (Row.R x 5).length ≤ 1900000) → out.length ≤ 2 * q →
  ∃ c rows, z80_l4 n j0 s1 b2 j3 s4 s5 b6 r7 s8 b9 j10 s11 b12 r13 i b re (q : Int) b' out = some ((c, rows), ()) ∧
   rows.map ruleD = oneL j0 ((s1, b2, j3, s4), s5, tms r7, (s8, b9, j10, s11), r13.map litD) ((r13.map litD).drop q) q (re.map litD) (out.map ruleD) := by
 have hb : 4000000 ≤ big := by unfold big; omega
 have hl := hB.len
 intro k
 induction k with
 |zero =>
  intro q hq i b re b' out hi hre hra hout
  obtain ⟨i, rfl⟩ : ∃ m, i = m + 1 := ⟨i - 1, by omega⟩
  have hnil : (r13.map litD).drop q = [] := List.drop_eq_nil_of_le (by rw [List.length_map]; omega)
  obtain ⟨c, ho⟩ := own_q (n := n) (b0 := b) (l := re) (by omega) hra hn
  rw [z80_s4, hnil, ho]
  have h1 : ¬ (q : Int) < (r13.length : Int) := by omega
  simp only [h1, decide_false, cond_false]
  rw [if_pos (show (0 + r7.length) * 48 ≤ 140737488355328 by omega)]
  simp only [obind]
  rw [if_pos (by simp only [List.length_cons, List.length_nil]; omega)]
  refine ⟨_, _, rfl, ?_⟩
  show (out ++ [_]).map ruleD = _
  rw [List.map_append, oneL]
  congr 1
  show [((s1, b2, j3, s4), s5, tms ([] ++ r7), (s8, b9, j10, s11), (re.map ownR).map litD)] = _
  rw [own_map]; rfl
 |succ k ih =>
  intro q hq i b re b' out hi hre hra hout
  obtain ⟨i, rfl⟩ : ∃ m, i = m + 1 := ⟨i - 1, by omega⟩
  have hlt : q < r13.length := by omega
  have h1 : (q : Int) < (r13.length : Int) := by omega
  have hlit := hB.lit r13[q] (List.getElem_mem hlt)
  have hw : IntKind.wrap IntKind.i64 ((q : Int) + 1) = ((q + 1 : Nat) : Int) := wrap_succ (by omega)
  have hz : (Row.S r13[q] 6 == ByteArray.mk #[] && (Row.B r13[q] 7 == false && (Row.I r13[q] 8 == 0 && (Row.S r13[q] 9 == ByteArray.mk #[] && true)))) = decide ((litD r13[q]).2.2.2 = zeroT) := sameT_eq (tmAt r13[q] 6) zeroT
  have hh : (Row.S r13[q] 6 == s1 && (Row.B r13[q] 7 == b2 && (Row.I r13[q] 8 == j3 && (Row.S r13[q] 9 == s4 && true)))) = decide ((litD r13[q]).2.2.2 = (s1, b2, j3, s4)) := sameT_eq (tmAt r13[q] 6) (s1, b2, j3, s4)
  rw [z80_s4, body_drop hlt, oneL]
  simp only [h1, natj, if_true, decide_true, cond_true, Int.toNat_natCast, getD_get hlt, hz, hh, hw]
  have hap : ∀ x : Row, litD x = noAt (litD r13[q]) → (Row.R x 5).length ≤ 1000 → ∀ bb, ∃ c rows, z80_l4 n j0 s1 b2 j3 s4 s5 b6 r7 s8 b9 j10 s11 b12 r13 i bb (re ++ [x]) ((q + 1 : Nat) : Int) b' out = some ((c, rows), ()) ∧
    rows.map ruleD = oneL j0 ((s1, b2, j3, s4), s5, tms r7, (s8, b9, j10, s11), r13.map litD) ((r13.map litD).drop (q + 1)) (q + 1) (re.map litD ++ [noAt (litD r13[q])]) (out.map ruleD) := by
   intro x hx hxl bb
   obtain ⟨c, rows, g1, g2⟩ := ih (q + 1) (by omega) i bb (re ++ [x]) b' out (by omega) (by simp; omega) (fun y hy => by
    rcases List.mem_append.1 hy with hy | hy
    ·exact hra y hy
    ·rw [List.mem_singleton.1 hy]; omega) (by omega)
   exact ⟨c, rows, g1, by rw [g2, List.map_append]; simp only [List.map_cons, List.map_nil, hx]⟩
  have hrl : (re.length + 1) * 136 ≤ 140737488355328 := by omega
  cases h2 : decide ((litD r13[q]).2.2.2 = zeroT) with
  |true =>
   simp only [cond_true]
   rw [if_pos (by show (re.length + 1) * 136 ≤ 140737488355328; omega)]
   exact hap (noAtR r13[q]) rfl hlit _
  |false =>
   simp only [cond_false]
   cases h3 : decide ((litD r13[q]).2.2.2 = (s1, b2, j3, s4)) with
   |true =>
    simp only [cond_true]
    rw [if_pos (by show (re.length + 1) * 136 ≤ 140737488355328; omega)]
    exact hap (noAtR r13[q]) rfl hlit _
   |false =>
    simp only [cond_false]
    have z1 := itoaB_size (z := j0) hi0 (by omega)
    have z2 := itoaB_size (z := (q : Int)) (by omega) (by omega)
    have z3 : (itoaB j0 ++ ByteArray.mk #[46]).size = (itoaB j0).size + 1 := ByteArray.size_append
    have z4 : (itoaB j0 ++ ByteArray.mk #[46] ++ itoaB (q : Int)).size = (itoaB j0 ++ ByteArray.mk #[46]).size + (itoaB (q : Int)).size := ByteArray.size_append
    rw [Itoa_b hi0 (by omega), Itoa_b (z := (q : Int)) (by omega) (by omega)]
    simp only [obind]
    rw [if_pos (by omega), if_pos (by omega)]
    obtain ⟨c1, e1⟩ := Bound_q (n := n) (s0 := s1) (b1 := b2) (j2 := j3) (s3 := s4) (s4 := s5) (b5 := b6) (r6 := r7) (s7 := s8) (b8 := b9) (j9 := j10) (s10 := s11) (b11 := b12) (r12 := r13) (j13 := (q : Int)) hn hB
    obtain ⟨c2, e2⟩ := Bound_q (n := n) (s0 := s1) (b1 := b2) (j2 := j3) (s3 := s4) (s4 := s5) (b5 := b6) (r6 := r7) (s7 := s8) (b8 := b9) (j9 := j10) (s10 := s11) (b11 := b12) (r12 := r13) (j13 := ((q + 1 : Nat) : Int)) hn hB
    have l1 := bound_len (r12 := r13) (s0 := s1) (k := q) hB
    have l2 := bound_len (r12 := r13) (s0 := s1) (k := q + 1) hB
    rw [Int.toNat_natCast] at e1 e2
    obtain ⟨c3, e3⟩ := lterms_q (n := n) (b0 := c1) (v := boundS s1 (r13.map litD) q) l1 hn
    obtain ⟨c4, e4⟩ := lterms_q (n := n) (b0 := c2) (v := boundS s1 (r13.map litD) (q + 1)) l2 hn
    obtain ⟨c5, e5⟩ := own_q (n := n) (b0 := b) (l := re) (by omega) hra hn
    rw [e1]
    simp only [obind]
    rw [e3]
    simp only [obind]
    rw [e2]
    simp only [obind]
    rw [e4]
    simp only [obind]
    rw [if_pos (by omega), e5]
    simp only [obind]
    rw [if_pos (by omega)]
    obtain ⟨c6, e6⟩ := own_q (n := n) (b0 := false) (l := [litRow s1 b2 j3 s4 (askP ++ (itoaB j0 ++ ByteArray.mk #[46] ++ itoaB (q : Int))) c3 ((boundS s1 (r13.map litD) q).map tvar), noAtR r13[q]]) (by simp) (fun x hx => by
     rcases List.mem_cons.1 hx with rfl | hx
     ·show ((boundS s1 (r13.map litD) q).map tvar).length ≤ 1900000
      rw [List.length_map]; exact l1
     ·rw [List.mem_singleton.1 hx]
      show (Row.R r13[q] 5).length ≤ 1900000
      omega) hn
    rw [e6]
    simp only [obind]
    rw [if_pos (by show (out.length + 2) * 160 ≤ 140737488355328; omega), if_pos (by omega)]
    have hgo := fun bb ob => ih (q + 1) (by omega) i bb [litRow (Row.S r13[q] 6) (Row.B r13[q] 7) (Row.I r13[q] 8) (Row.S r13[q] 9) (tellP ++ (itoaB j0 ++ ByteArray.mk #[46] ++ itoaB (q : Int))) c4 ((boundS s1 (r13.map litD) (q + 1)).map tvar)] ob
     (out ++ [[DV.val (.string s1), DV.val (.bool b2), DV.val (.int .i64 j3), DV.val (.string s4), DV.val (.string (askP ++ (itoaB j0 ++ ByteArray.mk #[46] ++ itoaB (q : Int)))), DV.sl c3 [Kd.s, Kd.b, Kd.i IntKind.i64, Kd.s] ((boundS s1 (r13.map litD) q).map tvar), DV.val (.string (Row.S r13[q] 6)), DV.val (.bool (Row.B r13[q] 7)), DV.val (.int .i64 (Row.I r13[q] 8)), DV.val (.string (Row.S r13[q] 9)), DV.sl c5 [Kd.s, Kd.b, Kd.i IntKind.i64, Kd.s, Kd.s, Kd.sl [Kd.s, Kd.b, Kd.i IntKind.i64, Kd.s], Kd.s, Kd.b, Kd.i IntKind.i64, Kd.s] (re.map ownR)],
      [DV.val (.string (Row.S r13[q] 6)), DV.val (.bool (Row.B r13[q] 7)), DV.val (.int .i64 (Row.I r13[q] 8)), DV.val (.string (Row.S r13[q] 9)), DV.val (.string (tellP ++ (itoaB j0 ++ ByteArray.mk #[46] ++ itoaB (q : Int)))), DV.sl c4 [Kd.s, Kd.b, Kd.i IntKind.i64, Kd.s] ((boundS s1 (r13.map litD) (q + 1)).map tvar), DV.val (.string s1), DV.val (.bool b2), DV.val (.int .i64 j3), DV.val (.string s4), DV.sl c6 [Kd.s, Kd.b, Kd.i IntKind.i64, Kd.s, Kd.s, Kd.sl [Kd.s, Kd.b, Kd.i IntKind.i64, Kd.s], Kd.s, Kd.b, Kd.i IntKind.i64, Kd.s] ([litRow s1 b2 j3 s4 (askP ++ (itoaB j0 ++ ByteArray.mk #[46] ++ itoaB (q : Int))) c3 ((boundS s1 (r13.map litD) q).map tvar), noAtR r13[q]].map ownR)]])
     (by omega) (by simp) (fun x hx => by
      rw [List.mem_singleton.1 hx]
      show ((boundS s1 (r13.map litD) (q + 1)).map tvar).length ≤ 1900000
      rw [List.length_map]; exact l2) (by simp; omega)
    obtain ⟨c, rows, g1, g2⟩ := hgo false _
    refine ⟨c, rows, g1, g2.trans ?_⟩
    have t1 := tms_tvar (boundS s1 (r13.map litD) q)
    have t2 := tms_tvar (boundS s1 (r13.map litD) (q + 1))
    have o1 := own_map re
    congr 1
    ·show [((Row.S r13[q] 6, Row.B r13[q] 7, Row.I r13[q] 8, Row.S r13[q] 9), tellP ++ nameD j0 (q : Int), tms ((boundS s1 (r13.map litD) (q + 1)).map tvar), zeroT)] = _
     rw [t2]; rfl
    ·rw [List.map_append]
     congr 1
     show [((s1, b2, j3, s4), askP ++ nameD j0 (q : Int), tms ((boundS s1 (r13.map litD) q).map tvar), (Row.S r13[q] 6, Row.B r13[q] 7, Row.I r13[q] 8, Row.S r13[q] 9), (re.map ownR).map litD), ((Row.S r13[q] 6, Row.B r13[q] 7, Row.I r13[q] 8, Row.S r13[q] 9), tellP ++ nameD j0 (q : Int), tms ((boundS s1 (r13.map litD) (q + 1)).map tvar), (s1, b2, j3, s4), [((s1, b2, j3, s4), askP ++ nameD j0 (q : Int), tms ((boundS s1 (r13.map litD) q).map tvar), zeroT), noAt (litD r13[q])])] = _
     rw [t1, t2, o1]; rfl
end
end Go.Den
