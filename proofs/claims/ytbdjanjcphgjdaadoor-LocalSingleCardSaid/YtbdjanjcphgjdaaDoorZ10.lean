import Derived.Test.YtbdjanjcphgjdaaDoorZ09
set_option linter.unusedVariables false
set_option linter.unusedSimpArgs false
set_option linter.unusedSectionVars false
namespace Go.Den
open Go.Proofs
set_option linter.unusedVariables false
@[reducible] def tvar (s : ByteArray) : Row := [DV.val (.string s), DV.val (.bool false), DV.val (.int .i64 0), DV.val (.string (ByteArray.mk #[]))]
theorem lterms_l {n : Nat} {b0 : Bool} {v : List ByteArray} (hv : v.length ≤ 1900000) : ∀ k q : Nat, q + k = v.length → ∀ (i : Nat) (b : Bool) (acc : List ByteArray), k < i → acc.length = q →
    ∃ b', local_terms_l3 n b0 (sr v) i b (acc.map tvar) (q : Int) = some ((b', (acc ++ v.drop q).map tvar), ()) := by
  have hb : 4000000 ≤ big := by unfold big; omega
  intro k
  induction k with
  | zero =>
    intro q hq i b acc hi ha
    obtain ⟨i, rfl⟩ : ∃ m, i = m + 1 := ⟨i - 1, by omega⟩
    have hnil : v.drop q = [] := List.drop_eq_nil_of_le (by omega)
    rw [local_terms_s3, hnil, List.append_nil]
    have h1 : ¬ (q : Int) < ((sr v).length : Int) := by rw [sr_len]; omega
    simp only [h1, decide_false, cond_false]
    exact ⟨b, rfl⟩
  | succ k ih =>
    intro q hq i b acc hi ha
    obtain ⟨i, rfl⟩ : ∃ m, i = m + 1 := ⟨i - 1, by omega⟩
    have hlt : q < v.length := by omega
    have h1 : (q : Int) < ((sr v).length : Int) := by rw [sr_len]; omega
    have hd : v.drop q = v[q] :: v.drop (q + 1) := List.drop_eq_getElem_cons hlt
    have hlen : ((acc.map tvar).length + List.length [tvar v[q]]) * 48 ≤ 140737488355328 := by rw [List.length_map]; show (acc.length + 1) * 48 ≤ _; omega
    have hap : appX (acc.map tvar) [tvar v[q]] = (acc ++ [v[q]]).map tvar := by simp [appX]
    rw [local_terms_s3, wrap_succ (show q < big by omega)]
    simp only [h1, natj, if_true, decide_true, cond_true, Int.toNat_natCast, sr_get hlt]
    obtain ⟨b', hgo⟩ := ih (q + 1) (by omega) i (b && List.isEmpty [tvar v[q]]) (acc ++ [v[q]]) (by omega) (by simp [ha])
    rw [← hap] at hgo
    rw [show [[DV.val (Value.string v[q]), DV.val (Value.bool false), DV.val (Value.int IntKind.i64 0), DV.val (Value.string (ByteArray.mk #[]))]] = [tvar v[q]] from rfl, if_pos hlen]
    refine ⟨b', hgo.trans ?_⟩
    rw [hd]; simp
theorem lterms_q {n : Nat} {b0 : Bool} {v : List ByteArray} (hv : v.length ≤ 1900000) (hn : 2000000 < n) : ∃ b', local_terms_v n b0 (sr v) = some ((b', v.map tvar), ()) := by
  rw [local_terms_e]
  exact lterms_l hv v.length 0 (by omega) n true [] (by omega) rfl
@[reducible] def ownR (x : Row) : Row := [DV.val (.string (Row.S x 0)), DV.val (.bool (Row.B x 1)), DV.val (.int .i64 (Row.I x 2)), DV.val (.string (Row.S x 3)), DV.val (.string (Row.S x 4)), DV.sl (true && List.isEmpty (Row.R x 5)) [Kd.s, Kd.b, Kd.i IntKind.i64, Kd.s] (appX [] (Row.R x 5)), DV.val (.string (Row.S x 6)), DV.val (.bool (Row.B x 7)), DV.val (.int .i64 (Row.I x 8)), DV.val (.string (Row.S x 9))]
theorem own_D (x : Row) : litD (ownR x) = litD x := rfl
theorem own_l {n : Nat} {b0 : Bool} {l : Rows} (hl : l.length ≤ 1000000) (ha : ∀ x ∈ l, (Row.R x 5).length ≤ 1900000) : ∀ k q : Nat, q + k = l.length → ∀ (i : Nat) (b : Bool) (acc : Rows), k < i → acc.length = q →
    ∃ b', local_own_l3 n b0 l i b acc (q : Int) = some ((b', acc ++ (l.drop q).map ownR), ()) := by
  have hb : 4000000 ≤ big := by unfold big; omega
  intro k
  induction k with
  | zero =>
    intro q hq i b acc hi hac
    obtain ⟨i, rfl⟩ : ∃ m, i = m + 1 := ⟨i - 1, by omega⟩
    have hnil : l.drop q = [] := List.drop_eq_nil_of_le (by omega)
    rw [local_own_s3, hnil]
    have h1 : ¬ (q : Int) < (l.length : Int) := by omega
    simp only [h1, decide_false, cond_false, List.map_nil, List.append_nil]
    exact ⟨b, rfl⟩
  | succ k ih =>
    intro q hq i b acc hi hac
    obtain ⟨i, rfl⟩ : ∃ m, i = m + 1 := ⟨i - 1, by omega⟩
    have hlt : q < l.length := by omega
    have h1 : (q : Int) < (l.length : Int) := by omega
    have hd : l.drop q = l[q] :: l.drop (q + 1) := List.drop_eq_getElem_cons hlt
    have hx := ha l[q] (List.getElem_mem hlt)
    have h2 : (0 + (Row.R l[q] 5).length) * 48 ≤ 140737488355328 := by omega
    have h3 : (acc.length + List.length [ownR l[q]]) * 136 ≤ 140737488355328 := by show (acc.length + 1) * 136 ≤ _; omega
    rw [local_own_s3, wrap_succ (show q < big by omega)]
    simp only [h1, natj, if_true, decide_true, cond_true, Int.toNat_natCast, getD_get hlt]
    obtain ⟨b', hgo⟩ := ih (q + 1) (by omega) i (b && List.isEmpty [ownR l[q]]) (acc ++ [ownR l[q]]) (by omega) (by simp [hac])
    rw [if_pos h2, if_pos h3]
    refine ⟨b', hgo.trans ?_⟩
    rw [hd, List.map_cons, List.append_assoc]; rfl
theorem own_q {n : Nat} {b0 : Bool} {l : Rows} (hl : l.length ≤ 1000000) (ha : ∀ x ∈ l, (Row.R x 5).length ≤ 1900000) (hn : 2000000 < n) : ∃ b', local_own_v n b0 l = some ((b', l.map ownR), ()) := by
  rw [local_own_e]
  exact own_l hl ha l.length 0 (by omega) n true [] (by omega) rfl
end Go.Den
namespace Go.Den
open Go.Proofs
set_option maxRecDepth 20000
set_option linter.unusedVariables false
set_option linter.unusedSectionVars false
def zeroT : Tm := (noS, false, 0, noS)
def varT (s : ByteArray) : Tm := (s, false, 0, noS)
def itoaB (z : Int) : ByteArray := ⟨(Go.Lib.itoa z).toArray⟩
@[reducible] def askP : ByteArray := ByteArray.mk #[126, 97, 115, 107]
@[reducible] def tellP : ByteArray := ByteArray.mk #[126, 116, 101, 108, 108]
def nameD (i k : Int) : ByteArray := itoaB i ++ ByteArray.mk #[46] ++ itoaB k
def noAt (l : LitD) : LitD := (l.1, l.2.1, l.2.2.1, zeroT)
def oneL (i : Int) (d : RuleD) : List LitD → Nat → List LitD → List RuleD → List RuleD
  | [], _, re, out => out ++ [(d.1, d.2.1, d.2.2.1, d.2.2.2.1, re)]
  | l :: t, k, re, out =>
    bif decide (l.2.2.2 = zeroT) then oneL i d t (k + 1) (re ++ [noAt l]) out
    else bif decide (l.2.2.2 = d.1) then oneL i d t (k + 1) (re ++ [noAt l]) out
    else oneL i d t (k + 1) [(l.2.2.2, tellP ++ nameD i k, (boundS d.1.1 d.2.2.2.2 (k + 1)).map varT, zeroT)]
      (out ++ [(d.1, askP ++ nameD i k, (boundS d.1.1 d.2.2.2.2 k).map varT, l.2.2.2, re), (l.2.2.2, tellP ++ nameD i k, (boundS d.1.1 d.2.2.2.2 (k + 1)).map varT, d.1, [(d.1, askP ++ nameD i k, (boundS d.1.1 d.2.2.2.2 k).map varT, zeroT), noAt l])])
theorem tms_tvar (v : List ByteArray) : tms (v.map tvar) = v.map varT := by
  unfold tms; rw [List.map_map]; rfl
theorem own_map (l : Rows) : (l.map ownR).map litD = l.map litD := by
  rw [List.map_map]; rfl
theorem Itoa_b {n : Nat} {z : Int} (h1 : 0 ≤ z) (h2 : z ≤ 100000) : strconv_Itoa_v n z = some (itoaB z, ()) := by
  unfold strconv_Itoa_v
  rw [decide_eq_true (show -9223372036854775808 ≤ z by omega), decide_eq_true (show z ≤ 9223372036854775807 by omega)]; rfl
theorem itoaB_size {z : Int} (h1 : 0 ≤ z) (h2 : z ≤ 100000) : (itoaB z).size ≤ 40 := itoa_size (by omega) (by omega)
@[reducible] def litRow (s : ByteArray) (b : Bool) (z : Int) (s' p : ByteArray) (nl : Bool) (l : Rows) : Row := [DV.val (.string s), DV.val (.bool b), DV.val (.int .i64 z), DV.val (.string s'), DV.val (.string p), DV.sl nl [Kd.s, Kd.b, Kd.i IntKind.i64, Kd.s] l, DV.val (.string (ByteArray.mk #[])), DV.val (.bool false), DV.val (.int .i64 0), DV.val (.string (ByteArray.mk #[]))]
@[reducible] def noAtR (x : Row) : Row := litRow (Row.S x 0) (Row.B x 1) (Row.I x 2) (Row.S x 3) (Row.S x 4) (Row.N x 5) (Row.R x 5)
section
variable {n : Nat} {j0 : Int} {s1 s4 s5 s8 s11 : ByteArray} {b2 b6 b9 b12 : Bool} {j3 j10 : Int} {r7 r13 : Rows}
theorem one_l (hn : 2000000 < n) (hB : BodyOk r13) (h7 : r7.length ≤ 1000) (hi0 : 0 ≤ j0) (hi1 : j0 ≤ 1000) : ∀ k q : Nat, q + k = r13.length → ∀ (i : Nat) (b : Bool) (re : Rows) (b' : Bool) (out : Rows), k < i → re.length ≤ q + 1 → (∀ x ∈ re, (Row.R x 5).length ≤ 1900000) → out.length ≤ 2 * q →
    ∃ c rows, local_one_l4 n j0 s1 b2 j3 s4 s5 b6 r7 s8 b9 j10 s11 b12 r13 i b re (q : Int) b' out = some ((c, rows), ()) ∧
      rows.map ruleD = oneL j0 ((s1, b2, j3, s4), s5, tms r7, (s8, b9, j10, s11), r13.map litD) ((r13.map litD).drop q) q (re.map litD) (out.map ruleD) := by
  have hb : 4000000 ≤ big := by unfold big; omega
  have hl := hB.len
  intro k
  induction k with
  | zero =>
    intro q hq i b re b' out hi hre hra hout
    obtain ⟨i, rfl⟩ : ∃ m, i = m + 1 := ⟨i - 1, by omega⟩
    have hnil : (r13.map litD).drop q = [] := List.drop_eq_nil_of_le (by rw [List.length_map]; omega)
    obtain ⟨c, ho⟩ := own_q (n := n) (b0 := b) (l := re) (by omega) hra hn
    rw [local_one_s4, hnil, ho]
    have h1 : ¬ (q : Int) < (r13.length : Int) := by omega
    simp only [h1, decide_false, cond_false]
    rw [if_pos (show (0 + r7.length) * 48 ≤ 140737488355328 by omega)]
    simp only [obind]
    rw [if_pos (by simp only [List.length_cons, List.length_nil]; omega)]
    refine ⟨_, _, rfl, ?_⟩
    show (out ++ [_]).map ruleD = _
    rw [List.map_append, oneL]
    congr 1
    show [((s1, b2, j3, s4), s5, tms ([] ++ r7), (s8, b9, j10, s11), (re.map ownR).map litD)] = _
    rw [own_map]; rfl
  | succ k ih =>
    intro q hq i b re b' out hi hre hra hout
    obtain ⟨i, rfl⟩ : ∃ m, i = m + 1 := ⟨i - 1, by omega⟩
    have hlt : q < r13.length := by omega
    have h1 : (q : Int) < (r13.length : Int) := by omega
    have hlit := hB.lit r13[q] (List.getElem_mem hlt)
    have hw : IntKind.wrap IntKind.i64 ((q : Int) + 1) = ((q + 1 : Nat) : Int) := wrap_succ (by omega)
    have hz : (Row.S r13[q] 6 == ByteArray.mk #[] && (Row.B r13[q] 7 == false && (Row.I r13[q] 8 == 0 && (Row.S r13[q] 9 == ByteArray.mk #[] && true)))) = decide ((litD r13[q]).2.2.2 = zeroT) := sameT_eq (tmAt r13[q] 6) zeroT
    have hh : (Row.S r13[q] 6 == s1 && (Row.B r13[q] 7 == b2 && (Row.I r13[q] 8 == j3 && (Row.S r13[q] 9 == s4 && true)))) = decide ((litD r13[q]).2.2.2 = (s1, b2, j3, s4)) := sameT_eq (tmAt r13[q] 6) (s1, b2, j3, s4)
    rw [local_one_s4, body_drop hlt, oneL]
    simp only [h1, natj, if_true, decide_true, cond_true, Int.toNat_natCast, getD_get hlt, hz, hh, hw]
    have hap : ∀ x : Row, litD x = noAt (litD r13[q]) → (Row.R x 5).length ≤ 1000 → ∀ bb, ∃ c rows, local_one_l4 n j0 s1 b2 j3 s4 s5 b6 r7 s8 b9 j10 s11 b12 r13 i bb (re ++ [x]) ((q + 1 : Nat) : Int) b' out = some ((c, rows), ()) ∧
        rows.map ruleD = oneL j0 ((s1, b2, j3, s4), s5, tms r7, (s8, b9, j10, s11), r13.map litD) ((r13.map litD).drop (q + 1)) (q + 1) (re.map litD ++ [noAt (litD r13[q])]) (out.map ruleD) := by
      intro x hx hxl bb
      obtain ⟨c, rows, g1, g2⟩ := ih (q + 1) (by omega) i bb (re ++ [x]) b' out (by omega) (by simp; omega) (fun y hy => by
        rcases List.mem_append.1 hy with hy | hy
        · exact hra y hy
        · rw [List.mem_singleton.1 hy]; omega) (by omega)
      exact ⟨c, rows, g1, by rw [g2, List.map_append]; simp only [List.map_cons, List.map_nil, hx]⟩
    have hrl : (re.length + 1) * 136 ≤ 140737488355328 := by omega
    cases h2 : decide ((litD r13[q]).2.2.2 = zeroT) with
    | true =>
      simp only [cond_true]
      rw [if_pos (by show (re.length + 1) * 136 ≤ 140737488355328; omega)]
      exact hap (noAtR r13[q]) rfl hlit _
    | false =>
      simp only [cond_false]
      cases h3 : decide ((litD r13[q]).2.2.2 = (s1, b2, j3, s4)) with
      | true =>
        simp only [cond_true]
        rw [if_pos (by show (re.length + 1) * 136 ≤ 140737488355328; omega)]
        exact hap (noAtR r13[q]) rfl hlit _
      | false =>
        simp only [cond_false]
        have z1 := itoaB_size (z := j0) hi0 (by omega)
        have z2 := itoaB_size (z := (q : Int)) (by omega) (by omega)
        have z3 : (itoaB j0 ++ ByteArray.mk #[46]).size = (itoaB j0).size + 1 := ByteArray.size_append
        have z4 : (itoaB j0 ++ ByteArray.mk #[46] ++ itoaB (q : Int)).size = (itoaB j0 ++ ByteArray.mk #[46]).size + (itoaB (q : Int)).size := ByteArray.size_append
        rw [Itoa_b hi0 (by omega), Itoa_b (z := (q : Int)) (by omega) (by omega)]
        simp only [obind]
        rw [if_pos (by omega), if_pos (by omega)]
        obtain ⟨c1, e1⟩ := Bound_q (n := n) (s0 := s1) (b1 := b2) (j2 := j3) (s3 := s4) (s4 := s5) (b5 := b6) (r6 := r7) (s7 := s8) (b8 := b9) (j9 := j10) (s10 := s11) (b11 := b12) (r12 := r13) (j13 := (q : Int)) hn hB
        obtain ⟨c2, e2⟩ := Bound_q (n := n) (s0 := s1) (b1 := b2) (j2 := j3) (s3 := s4) (s4 := s5) (b5 := b6) (r6 := r7) (s7 := s8) (b8 := b9) (j9 := j10) (s10 := s11) (b11 := b12) (r12 := r13) (j13 := ((q + 1 : Nat) : Int)) hn hB
        have l1 := bound_len (r12 := r13) (s0 := s1) (k := q) hB
        have l2 := bound_len (r12 := r13) (s0 := s1) (k := q + 1) hB
        rw [Int.toNat_natCast] at e1 e2
        obtain ⟨c3, e3⟩ := lterms_q (n := n) (b0 := c1) (v := boundS s1 (r13.map litD) q) l1 hn
        obtain ⟨c4, e4⟩ := lterms_q (n := n) (b0 := c2) (v := boundS s1 (r13.map litD) (q + 1)) l2 hn
        obtain ⟨c5, e5⟩ := own_q (n := n) (b0 := b) (l := re) (by omega) hra hn
        rw [e1]
        simp only [obind]
        rw [e3]
        simp only [obind]
        rw [e2]
        simp only [obind]
        rw [e4]
        simp only [obind]
        rw [if_pos (by omega), e5]
        simp only [obind]
        rw [if_pos (by omega)]
        obtain ⟨c6, e6⟩ := own_q (n := n) (b0 := false) (l := [litRow s1 b2 j3 s4 (askP ++ (itoaB j0 ++ ByteArray.mk #[46] ++ itoaB (q : Int))) c3 ((boundS s1 (r13.map litD) q).map tvar), noAtR r13[q]]) (by simp) (fun x hx => by
          rcases List.mem_cons.1 hx with rfl | hx
          · show ((boundS s1 (r13.map litD) q).map tvar).length ≤ 1900000
            rw [List.length_map]; exact l1
          · rw [List.mem_singleton.1 hx]
            show (Row.R r13[q] 5).length ≤ 1900000
            omega) hn
        rw [e6]
        simp only [obind]
        rw [if_pos (by show (out.length + 2) * 160 ≤ 140737488355328; omega), if_pos (by omega)]
        have hgo := fun bb ob => ih (q + 1) (by omega) i bb [litRow (Row.S r13[q] 6) (Row.B r13[q] 7) (Row.I r13[q] 8) (Row.S r13[q] 9) (tellP ++ (itoaB j0 ++ ByteArray.mk #[46] ++ itoaB (q : Int))) c4 ((boundS s1 (r13.map litD) (q + 1)).map tvar)] ob
          (out ++ [[DV.val (.string s1), DV.val (.bool b2), DV.val (.int .i64 j3), DV.val (.string s4), DV.val (.string (askP ++ (itoaB j0 ++ ByteArray.mk #[46] ++ itoaB (q : Int)))), DV.sl c3 [Kd.s, Kd.b, Kd.i IntKind.i64, Kd.s] ((boundS s1 (r13.map litD) q).map tvar), DV.val (.string (Row.S r13[q] 6)), DV.val (.bool (Row.B r13[q] 7)), DV.val (.int .i64 (Row.I r13[q] 8)), DV.val (.string (Row.S r13[q] 9)), DV.sl c5 [Kd.s, Kd.b, Kd.i IntKind.i64, Kd.s, Kd.s, Kd.sl [Kd.s, Kd.b, Kd.i IntKind.i64, Kd.s], Kd.s, Kd.b, Kd.i IntKind.i64, Kd.s] (re.map ownR)],
            [DV.val (.string (Row.S r13[q] 6)), DV.val (.bool (Row.B r13[q] 7)), DV.val (.int .i64 (Row.I r13[q] 8)), DV.val (.string (Row.S r13[q] 9)), DV.val (.string (tellP ++ (itoaB j0 ++ ByteArray.mk #[46] ++ itoaB (q : Int)))), DV.sl c4 [Kd.s, Kd.b, Kd.i IntKind.i64, Kd.s] ((boundS s1 (r13.map litD) (q + 1)).map tvar), DV.val (.string s1), DV.val (.bool b2), DV.val (.int .i64 j3), DV.val (.string s4), DV.sl c6 [Kd.s, Kd.b, Kd.i IntKind.i64, Kd.s, Kd.s, Kd.sl [Kd.s, Kd.b, Kd.i IntKind.i64, Kd.s], Kd.s, Kd.b, Kd.i IntKind.i64, Kd.s] ([litRow s1 b2 j3 s4 (askP ++ (itoaB j0 ++ ByteArray.mk #[46] ++ itoaB (q : Int))) c3 ((boundS s1 (r13.map litD) q).map tvar), noAtR r13[q]].map ownR)]])
          (by omega) (by simp) (fun x hx => by
            rw [List.mem_singleton.1 hx]
            show ((boundS s1 (r13.map litD) (q + 1)).map tvar).length ≤ 1900000
            rw [List.length_map]; exact l2) (by simp; omega)
        obtain ⟨c, rows, g1, g2⟩ := hgo false _
        refine ⟨c, rows, g1, g2.trans ?_⟩
        have t1 := tms_tvar (boundS s1 (r13.map litD) q)
        have t2 := tms_tvar (boundS s1 (r13.map litD) (q + 1))
        have o1 := own_map re
        congr 1
        · show [((Row.S r13[q] 6, Row.B r13[q] 7, Row.I r13[q] 8, Row.S r13[q] 9), tellP ++ nameD j0 (q : Int), tms ((boundS s1 (r13.map litD) (q + 1)).map tvar), zeroT)] = _
          rw [t2]; rfl
        · rw [List.map_append]
          congr 1
          show [((s1, b2, j3, s4), askP ++ nameD j0 (q : Int), tms ((boundS s1 (r13.map litD) q).map tvar), (Row.S r13[q] 6, Row.B r13[q] 7, Row.I r13[q] 8, Row.S r13[q] 9), (re.map ownR).map litD), ((Row.S r13[q] 6, Row.B r13[q] 7, Row.I r13[q] 8, Row.S r13[q] 9), tellP ++ nameD j0 (q : Int), tms ((boundS s1 (r13.map litD) (q + 1)).map tvar), (s1, b2, j3, s4), [((s1, b2, j3, s4), askP ++ nameD j0 (q : Int), tms ((boundS s1 (r13.map litD) q).map tvar), zeroT), noAt (litD r13[q])])] = _
          rw [t1, t2, o1]; rfl
end
end Go.Den
namespace Go.Den
open Go.Proofs
set_option maxRecDepth 20000
set_option linter.unusedVariables false
def rewL : List RuleD → Nat → List RuleD
  | [], _ => []
  | d :: t, i => oneL (i : Int) d d.2.2.2.2 0 [] [] ++ rewL t (i + 1)
theorem oneL_len (i : Int) (d : RuleD) : ∀ (l : List LitD) (k : Nat) (re : List LitD) (out : List RuleD), (oneL i d l k re out).length ≤ out.length + 2 * l.length + 1
  | [], k, re, out => by unfold oneL; simp
  | a :: l, k, re, out => by
    unfold oneL
    cases decide (a.2.2.2 = zeroT) with
    | true =>
      have := oneL_len i d l (k + 1) (re ++ [noAt a]) out
      simp only [cond_true, List.length_cons]; omega
    | false =>
      cases decide (a.2.2.2 = d.1) with
      | true =>
        have := oneL_len i d l (k + 1) (re ++ [noAt a]) out
        simp only [cond_true, cond_false, List.length_cons]; omega
      | false =>
        simp only [cond_false]
        refine Nat.le_trans (oneL_len i d l (k + 1) _ _) ?_
        simp only [List.length_append, List.length_cons, List.length_nil]; omega
theorem one_q {n : Nat} {i : Nat} {r : Row} (hn : 2000000 < n) (h : RuleOk n r) (hi : i ≤ 1000) : ∃ c rows, local_one_v n (i : Int) (Row.S r 0) (Row.B r 1) (Row.I r 2) (Row.S r 3) (Row.S r 4) (Row.N r 5) (Row.R r 5) (Row.S r 6) (Row.B r 7) (Row.I r 8) (Row.S r 9) (Row.N r 10) (Row.R r 10) = some ((c, rows), ()) ∧
    rows.map ruleD = oneL (i : Int) (ruleD r) (ruleD r).2.2.2.2 0 [] [] := by
  have hB := bodyOk h
  have hl := hB.len
  rw [local_one_e]
  exact one_l (n := n) (j0 := (i : Int)) (s1 := Row.S r 0) (b2 := Row.B r 1) (j3 := Row.I r 2) (s4 := Row.S r 3) (s5 := Row.S r 4) (b6 := Row.N r 5) (r7 := Row.R r 5) (s8 := Row.S r 6) (b9 := Row.B r 7) (j10 := Row.I r 8) (s11 := Row.S r 9) (b12 := Row.N r 10) (r13 := Row.R r 10) hn hB h.len (by omega) (by omega) (Row.R r 10).length 0 (by omega) n true [] true [] (by omega) (by simp) (fun x hx => by cases hx) (by simp)
theorem Rewrite_l {n : Nat} {r1 : Rows} {b0 : Bool} (hn : 2000000 < n) (hl : r1.length ≤ 300) (h : ∀ r ∈ r1, RuleOk n r) : ∀ k q : Nat, q + k = r1.length → ∀ (i : Nat) (b : Bool) (out : Rows), k < i → out.length ≤ 2001 * q →
    ∃ c rows, local_Rewrite_l6 n b0 r1 i b out (q : Int) = some (((c, rows), (0, ())), ()) ∧ rows.map ruleD = out.map ruleD ++ rewL ((r1.drop q).map ruleD) q := by
  have hb : 4000000 ≤ big := by unfold big; omega
  intro k
  induction k with
  | zero =>
    intro q hq i b out hi ho
    obtain ⟨i, rfl⟩ : ∃ m, i = m + 1 := ⟨i - 1, by omega⟩
    have hnil : r1.drop q = [] := List.drop_eq_nil_of_le (by omega)
    rw [local_Rewrite_s6, hnil]
    have h1 : ¬ (q : Int) < (r1.length : Int) := by omega
    simp only [h1, decide_false, cond_false]
    exact ⟨b, out, rfl, by simp [rewL]⟩
  | succ k ih =>
    intro q hq i b out hi ho
    obtain ⟨i, rfl⟩ : ∃ m, i = m + 1 := ⟨i - 1, by omega⟩
    have hlt : q < r1.length := by omega
    have h1 : (q : Int) < (r1.length : Int) := by omega
    have hd : r1.drop q = r1[q] :: r1.drop (q + 1) := List.drop_eq_getElem_cons hlt
    have hr := h r1[q] (List.getElem_mem hlt)
    obtain ⟨c, rows, g1, g2⟩ := one_q (i := q) hn hr (by omega)
    have hrl : rows.length ≤ 2001 := by
      have e1 : rows.length = (oneL (q : Int) (ruleD r1[q]) (ruleD r1[q]).2.2.2.2 0 [] []).length := by rw [← g2, List.length_map]
      have e2 := oneL_len (q : Int) (ruleD r1[q]) (ruleD r1[q]).2.2.2.2 0 [] []
      have e3 : (ruleD r1[q]).2.2.2.2.length = (Row.R r1[q] 10).length := by simp [ruleD]
      have e4 := hr.blen
      simp only [List.length_nil] at e2
      omega
    rw [local_Rewrite_s6, wrap_succ (show q < big by omega)]
    simp only [h1, natj, if_true, decide_true, cond_true, Int.toNat_natCast, getD_get hlt]
    rw [g1]
    simp only [obind]
    rw [if_pos (by omega)]
    obtain ⟨c2, rows2, g3, g4⟩ := ih (q + 1) (by omega) i (b && List.isEmpty rows) (out ++ rows) (by omega) (by rw [List.length_append]; omega)
    refine ⟨c2, rows2, g3, ?_⟩
    rw [g4, hd, List.map_append, g2, List.map_cons, rewL, List.append_assoc]
theorem Rewrite_q {n : Nat} {r1 : Rows} {b0 : Bool} (hn : 2000000 < n) (hl : r1.length ≤ 300) (h : ∀ r ∈ r1, RuleOk n r) :
    (∃ c rows, (progC r1).1 = 0 ∧ local_Rewrite_v n b0 r1 = some (((c, rows), (0, ())), ()) ∧ rows.map ruleD = rewL (r1.map ruleD) 0) ∨ ((progC r1).1 ≠ 0 ∧ local_Rewrite_v n b0 r1 = some (((true, []), ((progC r1).1, ())), ())) := by
  rw [local_Rewrite_e, Program_q hn (by omega) h]
  simp only [obind, outP]
  by_cases he : (progC r1).1 = 0
  · left
    obtain ⟨c, rows, g1, g2⟩ := Rewrite_l (n := n) (b0 := b0) hn hl h r1.length 0 (by omega) n true [] (by omega) (by simp)
    refine ⟨c, rows, he, ?_, by rw [g2]; simp⟩
    rw [he]
    simp only [bne_self_eq_false, cond_false]
    exact g1
  · right
    have : ((progC r1).1 != 0) = true := by simpa using he
    refine ⟨he, ?_⟩
    rw [this]; rfl
end Go.Den
namespace Go.Den
open Go.Proofs
set_option maxRecDepth 20000
set_option linter.unusedVariables false
def live13T : ByteArray := ByteArray.mk #[65, 58, 32, 112, 40, 88, 41, 32, 58, 45, 32, 113, 40, 66, 41, 44, 32, 114, 40, 88, 41, 32, 97, 116, 32, 66, 46]
def live13D : List RuleD := rewL ((rowsOf' live13T).map ruleD) 0
theorem live13_ok : (match parseE live13T with | .ok _ => true | .error _ => false) = true := by kernel_rfl
theorem live13_rules : rulesB (rowsOf' live13T) = true := by kernel_rfl
theorem live13_prog : (progC (rowsOf' live13T)).1 = 0 := by kernel_rfl
theorem live13_len : (rowsOf' live13T).length = 1 := by kernel_rfl
theorem live13_three : live13D.length = 3 := by kernel_rfl
theorem relay_a {n : Nat} : local_Relay_v n (ByteArray.mk #[126, 120]) = some (true, ()) := by
  rw [local_Relay_e, strings_HasPrefix_e, internal_stringslite_HasPrefix_e]; kernel_rfl
theorem relay_b {n : Nat} : local_Relay_v n (ByteArray.mk #[120]) = some (false, ()) := by
  rw [local_Relay_e, strings_HasPrefix_e, internal_stringslite_HasPrefix_e]; kernel_rfl
theorem live13_q {n : Nat} (hn : 2000000 < n) : law13_live_v n = some (true, ()) := by
  rw [law13_live_e, show (ByteArray.mk #[65, 58, 32, 112, 40, 88, 41, 32, 58, 45, 32, 113, 40, 66, 41, 44, 32, 114, 40, 88, 41, 32, 97, 116, 32, 66, 46]) = live13T from rfl, program_pq (by omega)]
  have h1 := live13_ok
  have h2 := live13_rules
  have h3 := live13_prog
  have h4 := live13_len
  have h5 := live13_three
  have k0 : (live13D.getD 0 (zeroT, noS, [], zeroT, [])).2.1 = ByteArray.mk #[126, 97, 115, 107, 48, 46, 49] := by kernel_rfl
  have k1 : (live13D.getD 1 (zeroT, noS, [], zeroT, [])).1.1 = ByteArray.mk #[66] := by kernel_rfl
  have k2 : (live13D.getD 2 (zeroT, noS, [], zeroT, [])).2.2.2.2.length = 1 := by kernel_rfl
  have k3 : ((live13D.getD 2 (zeroT, noS, [], zeroT, [])).2.2.2.2.getD 0 (zeroT, noS, [], zeroT)).1.1 = ByteArray.mk #[66] := by kernel_rfl
  unfold live13D at h5 k0 k1 k2 k3
  unfold rowsOf' at h2 h3 h4 h5 k0 k1 k2 k3
  cases hp : parseE live13T with
  | error e => rw [hp] at h1; cases h1
  | ok l =>
    rw [hp] at h2 h3 h4 h5 k0 k1 k2 k3
    simp only at h2 h3 h4 h5 k0 k1 k2 k3
    simp only [obind, encG]
    rcases Rewrite_q (n := n) (r1 := l) (b0 := l.isEmpty) hn (by omega) (rulesB_ok (by omega) h2) with ⟨c, rows, _, g1, g2⟩ | ⟨g0, _⟩
    · rw [g1]
      rw [← g2] at h5 k0 k1 k2 k3
      rw [List.length_map] at h5
      match rows, h5 with
      | [a, b, d], _ =>
        have e0 : Row.S a 4 = ByteArray.mk #[126, 97, 115, 107, 48, 46, 49] := k0
        have e1 : Row.S b 0 = ByteArray.mk #[66] := k1
        have e2 : ((Row.R d 10).map litD).length = 1 := k2
        rw [List.length_map] at e2
        have e3 : (((Row.R d 10).map litD).getD 0 (zeroT, noS, [], zeroT)).1.1 = ByteArray.mk #[66] := k3
        have e4 : Row.S ((Row.R d 10).getD 0 []) 0 = ByteArray.mk #[66] := by
          match hd : Row.R d 10, e2 with
          | [x], _ => rw [hd] at e3; exact e3
        simp only [List.getD_cons_zero, List.getD_cons_succ, e0, e1, e2, e4, relay_a, relay_b, List.length_cons, List.length_nil]
        rfl
    · exact absurd h3 g0
end Go.Den
