import Derived.Test.YtkgiabbndbmmbaaZ25
set_option linter.unusedVariables false
set_option linter.unusedSimpArgs false
set_option linter.unusedSectionVars false
namespace Go.Den
open Go.Proofs
theorem smallL_iff {r : Rows} : SmallL r ↔ ∀ k ∈ r.map kr, SmallK k := by
 constructor
 ·intro h k hk
  obtain ⟨q, hq, rfl⟩ := List.mem_map.1 hk
  exact h q hq
 ·intro h q hq
  exact h (kr q) (List.mem_map_of_mem hq)
theorem ins_rowsK {r : Rows} {x : Row} {f : KF} (hx : kr x = f) (h : isO ordK f (r.map kr) = false) : (r.take (cntO ordK f (r.map kr)) ++ [x] ++ r.drop (cntO ordK f (r.map kr))).map kr = insO ordK f (r.map kr) := by
 rw [insO_eq, h, cond_false]
 simp only [List.map_append, List.map_cons, List.map_nil, List.map_take, List.map_drop, hx]
section
variable {n : Nat} (hn : 1000 < n)
include hn
theorem in_q {b b3 : Bool} {r r4 : Rows} {s0 s1 s2 : ByteArray} (hs : SmallL r) (hl : r.length ≤ 1000) (ha : Asc ordK (r.map kr)) :
  z13_v n s0 s1 s2 b3 r4 ([DV.sl b [Kd.s, Kd.s, Kd.s, Kd.sl [Kd.b, Kd.i IntKind.i64, Kd.s]] r]) = some (isO ordK (kf s0 s1 s2 b3 r4) (r.map kr), ()) := by
 rw [z13_e]
 have e1 : Row.N ([DV.sl b [Kd.s, Kd.s, Kd.s, Kd.sl [Kd.b, Kd.i IntKind.i64, Kd.s]] r]) 0 = b := rfl
 have e2 : Row.R ([DV.sl b [Kd.s, Kd.s, Kd.s, Kd.sl [Kd.b, Kd.i IntKind.i64, Kd.s]] r]) 0 = r := rfl
 rw [e1, e2, bsF_q hn hs hl ha]
 rfl
theorem body_loop {b0 b2 b4 b29 b36 b38 : Bool} {r1 r3 r30 r37 r39 : Rows} {j32 : Int} {s33 s34 s35 : ByteArray} {i0 i1 j : Nat} {more : Bool} {b13 : Bool} {r14 : Rows} {o : List KF} (hj : j < 1000000)
  (h30 : r30.length ≤ 500) (h37 : r37.length ≤ 500) (hw37 : b36 = true → r37 = []) (h39 : SmallL r39) (hl39 : r39.length ≤ 500) (hw39 : b38 = true → r39 = [])
  (hs : SmallL r14) (hl : r14.length ≤ 900) (ho : r14.map kr = o) (ha : Asc ordK o) (hb : b13 = true ↔ r14 = []) (hnew : isO ordK (kf s33 s34 s35 b36 r37) o = false) :
  ∀ k q : Nat, q + k = r30.length → ∀ f, k < f →
  ∃ b' r', z24_l13 n b0 r1 b2 r3 b4 i0 i1 f b13 r14 (q : Int) more (j : Int) b29 r30 (r30.length : Int) j32 s33 s34 s35 b36 r37 b38 r39 = z24_l9 n b0 r1 b2 r3 b4 i0 i1 b' r' ((j + 1 : Nat) : Int) (bif ((r30.drop q).map kr).all (fun g => isO ordK g o) then true else more) ∧
   r'.map kr = (bif ((r30.drop q).map kr).all (fun g => isO ordK g o) then insO ordK (kf s33 s34 s35 b36 r37) o else o) ∧ (b' = true ↔ r' = []) := by
 subst ho
 intro k
 induction k with
 |zero =>
  intro q hq f hf
  obtain ⟨f, rfl⟩ : ∃ z, f = z + 1 := ⟨f - 1, by omega⟩
  rw [z24_s13, List.drop_eq_nil_of_le (show r30.length ≤ q by omega), wrap_succ (show j < big by unfold big; omega)]
  have h1 : ¬ ((q : Int) < (r30.length : Int)) := by omega
  obtain ⟨b, rows, e1, e2, e3⟩ := own_q hn (j0 := j32) (s1 := s33) (s2 := s34) (s3 := s35) h37 hw37 h39 hl39 hw39
  simp only [h1, decide_false, cond_false, bsF_q hn hs (by omega) ha, obind_some, List.map_nil, List.all_nil, cond_true]
  cases b13 with
  |true =>
   have hr := hb.1 rfl
   subst hr
   simp only [Bool.true_or, cond_true, e1, obind_some, List.map_nil, cntO]
   refine ⟨false, _, rfl, rfl, ?_⟩
   simp
  |false =>
   have hne : r14 ≠ [] := fun h => by have := hb.2 h; cases this
   have hem : r14.isEmpty = false := by cases r14 with | nil => exact absurd rfl hne | cons _ _ => rfl
   have hc := cntO_le (c := ordK) (kf s33 s34 s35 b36 r37) (r14.map kr)
   rw [List.length_map] at hc
   have hins := ins_rowsK (x := [DV.val (Value.string s33), DV.val (Value.string s34), DV.val (Value.string s35), DV.sl b36 [Kd.b, Kd.i IntKind.i64, Kd.s] r37]) (f := kf s33 s34 s35 b36 r37) rfl hnew
   generalize cntO ordK (kf s33 s34 s35 b36 r37) (r14.map kr) = c at hc hins
   have c1 : (0 : Int) ≤ (c : Int) := by omega
   have c2 : (c : Int) ≤ (r14.length : Int) := by omega
   have c3 : r14.length + 1 ≤ 1000000 := by omega
   simp only [hem, Bool.or_false, cond_false, e1, obind_some, c1, c2, if_true, Int.toNat_natCast, List.length_cons, List.length_nil, Nat.zero_add, c3]
   have c4 : r14.length + 1 ≤ (r14.take c ++ [[DV.val (Value.string s33), DV.val (Value.string s34), DV.val (Value.string s35), DV.sl b36 [Kd.b, Kd.i IntKind.i64, Kd.s] r37]] ++ r14.drop c).length := by simp only [List.length_append, List.length_take, List.length_drop, List.length_cons, List.length_nil]; omega
   rw [if_pos c4]
   have c5 : (Kd.sameL [Kd.s, Kd.s, Kd.s, Kd.sl [Kd.b, Kd.i IntKind.i64, Kd.s]] [Kd.s, Kd.s, Kd.s, Kd.sl [Kd.b, Kd.i IntKind.i64, Kd.s]] && Nat.ble (r14.length + 1) (r14.length + 1)) = true := by
    rw [Bool.and_eq_true]; exact ⟨by decide, by simp⟩
   rw [c5, cond_true, List.drop_zero, List.take_of_length_le (by simp only [List.length_append, List.length_take, List.length_drop, List.length_cons, List.length_nil]; omega)]
   refine ⟨false, _, rfl, hins, ?_⟩
   simp
 |succ k ih =>
  intro q hq f hf
  obtain ⟨f, rfl⟩ : ∃ z, f = z + 1 := ⟨f - 1, by omega⟩
  have hlt : q < r30.length := by omega
  have h1 : (q : Int) < (r30.length : Int) := by omega
  have h0 : (0 : Int) ≤ (q : Int) := by omega
  rw [z24_s13, List.drop_eq_getElem_cons hlt, wrap_succ (show j < big by unfold big; omega), wrap_succ (show q < big by unfold big; omega), List.map_cons, List.all_cons]
  simp only [h1, h0, decide_true, cond_true, if_true, Int.toNat_natCast, getD_get hlt, in_q hn hs (show r14.length ≤ 1000 by omega) ha, obind_some]
  have ek : kf (Row.S r30[q] 0) (Row.S r30[q] 1) (Row.S r30[q] 2) (Row.N r30[q] 3) (Row.R r30[q] 3) = kr r30[q] := rfl
  rw [ek]
  cases hi : isO ordK (kr r30[q]) (r14.map kr) with
  |false =>
   simp only [Bool.not_false, cond_true, Bool.false_and, cond_false]
   exact ⟨b13, r14, rfl, rfl, hb⟩
  |true =>
   simp only [Bool.not_true, cond_false, Bool.true_and]
   exact ih (q + 1) (by omega) f (by omega)
theorem pass_loop {b0 b2 b4 : Bool} {r1 r3 : Rows} {i0 : Nat} {B : List KF} {C : Nat} (h3 : SmallDs r3) (hl3 : r3.length ≤ 900) (hC : C ≤ 900) : ∀ k j : Nat, j + k = r3.length → ∀ f (b : Bool) (r : Rows) (more : Bool), k < f → Good (r3.map dr) B C (r.map kr) → (b = true ↔ r = []) →
  ∃ b' r', z24_l9 n b0 r1 b2 r3 b4 i0 f b r (j : Int) more = z24_l6 n b0 r1 b2 r3 b4 i0 b' r' (grew ((r3.drop j).map dr) (r.map kr) more) ∧ r'.map kr = pass ((r3.drop j).map dr) (r.map kr) ∧ (b' = true ↔ r' = []) := by
 intro k
 induction k with
 |zero =>
  intro j hj f b r more hf hg hb
  obtain ⟨f, rfl⟩ : ∃ z, f = z + 1 := ⟨f - 1, by omega⟩
  rw [z24_s9, List.drop_eq_nil_of_le (show r3.length ≤ j by omega)]
  have h1 : ¬ ((j : Int) < (r3.length : Int)) := by omega
  simp only [h1, decide_false, cond_false, List.map_nil, grew, pass]
  exact ⟨b, r, rfl, rfl, hb⟩
 |succ k ih =>
  intro j hj f b r more hf hg hb
  obtain ⟨f, rfl⟩ : ∃ z, f = z + 1 := ⟨f - 1, by omega⟩
  have hlt : j < r3.length := by omega
  have h1 : (j : Int) < (r3.length : Int) := by omega
  have h0 : (0 : Int) ≤ (j : Int) := by omega
  have hx := h3 _ (List.getElem_mem hlt)
  have hs : SmallL r := smallL_iff.2 hg.small
  have hlen := hg.len
  rw [List.length_map] at hlen
  have hmem : dr r3[j] ∈ r3.map dr := List.mem_map_of_mem (List.getElem_mem hlt)
  rw [z24_s9, List.drop_eq_getElem_cons hlt, List.map_cons, wrap_succ (show j < big by unfold big; omega)]
  simp only [h1, h0, decide_true, cond_true, if_true, Int.toNat_natCast, getD_get hlt, in_q hn hs (show r.length ≤ 1000 by omega) hg.asc, obind_some]
  have ek : kf (Row.S r3[j] 1) (Row.S r3[j] 2) (Row.S r3[j] 3) (Row.N r3[j] 4) (Row.R r3[j] 4) = (dr r3[j]).2.1 := rfl
  rw [ek]
  unfold grew pass
  cases hi : isO ordK (dr r3[j]).2.1 (r.map kr) with
  |true =>
   have hok : okD (r.map kr) (dr r3[j]) = false := by unfold okD; rw [hi]; rfl
   simp only [cond_true, hok, cond_false]
   exact ih (j + 1) (by omega) f b r more (by omega) hg hb
  |false =>
   simp only [cond_false]
   obtain ⟨b', r', e1, e2, e3⟩ := body_loop hn (b0 := b0) (b2 := b2) (b4 := b4) (b29 := Row.N r3[j] 5) (b36 := Row.N r3[j] 4) (b38 := Row.N r3[j] 5) (r1 := r1) (r3 := r3) (r30 := Row.R r3[j] 5) (r37 := Row.R r3[j] 4) (r39 := Row.R r3[j] 5) (j32 := Row.I r3[j] 0) (s33 := Row.S r3[j] 1) (s34 := Row.S r3[j] 2) (s35 := Row.S r3[j] 3) (i0 := i0) (i1 := f) (j := j) (more := more) (b13 := b) (r14 := r) (o := r.map kr) (by omega)
    hx.2.2.2.1 hx.1 hx.2.1 hx.2.2.1 hx.2.2.2.1 hx.2.2.2.2 hs (by omega) rfl hg.asc hb hi (Row.R r3[j] 5).length 0 (by omega) n (by have := hx.2.2.2.1; omega)
   have hok : okD (r.map kr) (dr r3[j]) = ((Row.R r3[j] 5).map kr).all (fun g => isO ordK g (r.map kr)) := by unfold okD; rw [hi]; rfl
   rw [List.drop_zero] at e1 e2
   rw [← hok] at e1 e2
   rw [show ((0 : Nat) : Int) = 0 from rfl] at e1
   rw [e1]
   have hg' : Good (r3.map dr) B C (r'.map kr) := by
    rw [e2]
    cases hq : okD (r.map kr) (dr r3[j]) with
    |false => exact hg
    |true => exact (hg.ins hmem ⟨hx.1, hx.2.1⟩ hq).1
   obtain ⟨b2', r2', g1, g2, g3⟩ := ih (j + 1) (by omega) f b' r' (bif okD (r.map kr) (dr r3[j]) then true else more) (by omega) hg' e3
   refine ⟨b2', r2', ?_, ?_, g3⟩
   ·rw [g1, e2]; rfl
   ·rw [g2, e2]; rfl
theorem out_loop {b0 b2 b4 : Bool} {r1 r3 : Rows} {B : List KF} {C : Nat} (h3 : SmallDs r3) (hl3 : r3.length ≤ 900) (hC : C ≤ 900) : ∀ m : Nat, ∀ (b : Bool) (r : Rows), C - r.length ≤ m → ∀ f, m + 1 < f → Good (r3.map dr) B C (r.map kr) → (b = true ↔ r = []) →
  ∃ b' r', z24_l6 n b0 r1 b2 r3 b4 f b r true = some ((b', r'), (((b2, r3), (b4, ())), ())) ∧ Good (r3.map dr) B C (r'.map kr) ∧ (∀ d ∈ r3.map dr, okD (r'.map kr) d = false) ∧ (b' = true ↔ r' = []) := by
 have hsm : ∀ d ∈ r3.map dr, SmallK d.2.1 := fun d hd => by
  obtain ⟨x, hx, rfl⟩ := List.mem_map.1 hd
  exact ⟨(h3 x hx).1, (h3 x hx).2.1⟩
 intro m
 induction m with
 |zero =>
  intro b r hm f hf hg hb
  obtain ⟨f, rfl⟩ : ∃ z, f = z + 1 := ⟨f - 1, by omega⟩
  rw [z24_s6, cond_true]
  obtain ⟨b', r', e1, e2, e3⟩ := pass_loop hn (b0 := b0) (b2 := b2) (b4 := b4) (r1 := r1) (i0 := f) h3 hl3 hC r3.length 0 (by omega) n b r false (by omega) hg hb
  rw [show ((0 : Nat) : Int) = 0 from rfl, List.drop_zero] at e1
  rw [List.drop_zero] at e2
  obtain ⟨g1, g2, g3, g4⟩ := pass_good hsm (l := r3.map dr) hg (fun d hd => hd)
  cases hgr : grew (r3.map dr) (r.map kr) false with
  |true =>
   have h5 := g3 hgr
   have h6 := g1.len
   simp only [List.length_map] at h5
   omega
  |false =>
   obtain ⟨h5, h6⟩ := g4 hgr
   obtain ⟨f, rfl⟩ : ∃ z, f = z + 1 := ⟨f - 1, by omega⟩
   rw [e1, hgr, z24_s6, cond_false]
   rw [h5] at e2
   exact ⟨b', r', rfl, by rw [e2]; exact hg, by rw [e2]; exact h6, e3⟩
 |succ m ih =>
  intro b r hm f hf hg hb
  obtain ⟨f, rfl⟩ : ∃ z, f = z + 1 := ⟨f - 1, by omega⟩
  rw [z24_s6, cond_true]
  obtain ⟨b', r', e1, e2, e3⟩ := pass_loop hn (b0 := b0) (b2 := b2) (b4 := b4) (r1 := r1) (i0 := f) h3 hl3 hC r3.length 0 (by omega) n b r false (by omega) hg hb
  rw [show ((0 : Nat) : Int) = 0 from rfl, List.drop_zero] at e1
  rw [List.drop_zero] at e2
  obtain ⟨g1, g2, g3, g4⟩ := pass_good hsm (l := r3.map dr) hg (fun d hd => hd)
  cases hgr : grew (r3.map dr) (r.map kr) false with
  |true =>
   have h5 := g3 hgr
   rw [← e2] at h5 g1
   simp only [List.length_map] at h5
   rw [e1, hgr]
   exact ih b' r' (by omega) f (by omega) g1 e3
  |false =>
   obtain ⟨h5, h6⟩ := g4 hgr
   obtain ⟨f, rfl⟩ : ∃ z, f = z + 1 := ⟨f - 1, by omega⟩
   rw [e1, hgr, z24_s6, cond_false]
   rw [h5] at e2
   exact ⟨b', r', rfl, by rw [e2]; exact hg, by rw [e2]; exact h6, e3⟩
theorem sorted_nil {b0 : Bool} : z40_v n b0 [] = some ((true, []), ()) := by
 rw [z40_e]
 obtain ⟨f, rfl⟩ : ∃ z, n = z + 1 := ⟨n - 1, by omega⟩
 rw [z40_s3]
 have h1 : slices_SortFunc_fact_Order_v (f + 1) true [] = some ((), ()) := rfl
 have h2 : z6_v (f + 1) true [] = some ((true, []), ()) := by rw [z6_e]; rfl
 simp [h1, h2]
theorem founded_q {b0 b2 : Bool} {r1 r3 : Rows} (h1 : SmallL r1) (hl1 : r1.length ≤ 450) (h3 : SmallDs r3) (hl3 : r3.length ≤ 450) :
  ∃ b' r', z24_v n b0 r1 b2 r3 true = some ((b', r'), (((b2, r3), (true, ())), ())) ∧ Strict (r'.map kr) ∧ (∀ f, InK (r'.map kr) f ↔ Fnd (r3.map dr) (r1.map kr) f) ∧ SmallL r' ∧ r'.length ≤ r1.length + r3.length := by
 rw [z24_e, z25_e]
 simp only [obind_some]
 have e0 : (!Row.B ([DV.sl b2 [Kd.i IntKind.i64, Kd.s, Kd.s, Kd.s, Kd.sl [Kd.b, Kd.i IntKind.i64, Kd.s], Kd.sl [Kd.s, Kd.s, Kd.s, Kd.sl [Kd.b, Kd.i IntKind.i64, Kd.s]]] r3, DV.val (Value.bool true)]) 1) = false := rfl
 rw [e0, cond_false]
 have hst : ∃ y rows, z40_v n b0 r1 = some ((y, rows), ()) ∧ Canon (rows.map kr) (r1.map kr) ∧ (y = true ↔ rows = []) ∧ rows.length ≤ r1.length ∧ SmallL rows := by
  cases r1 with
  |nil => exact ⟨true, [], sorted_nil hn, ⟨List.Pairwise.nil, (fun k hk => hk), (fun k hk => by cases hk)⟩, by simp, Nat.le_refl _, fun r hr => by cases hr⟩
  |cons x r1 =>
   obtain ⟨y, rows, e1, e2, e3, e4, e5⟩ := sorted_q hn (b0 := b0) h1 (by omega)
   refine ⟨y, rows, e1, e2, ⟨e3, fun h => ?_⟩, e4, e5⟩
   subst h
   obtain ⟨q, hq, _⟩ := e2.all (kr x) (by simp)
   cases hq
 obtain ⟨y, rows, e1, e2, e3, e4, e5⟩ := hst
 rw [e1, obind_some]
 have hg := Good.first (L := r3.map dr) (B := r1.map kr) e2.strict (fun f => e2.inK f) (smallL_iff.1 e5)
 simp only [List.length_map] at hg
 obtain ⟨b', r', g1, g2, g3, g4⟩ := out_loop hn (b0 := b0) (b2 := b2) (b4 := true) (r1 := r1) h3 (by omega) (C := rows.length + r3.length) (by omega) (rows.length + r3.length) y rows (by omega) n (by omega) hg e3
 refine ⟨b', r', g1, g2.asc, fun f => (g2.closed g3 f).symm, smallL_iff.2 g2.small, ?_⟩
 have := g2.len
 rw [List.length_map] at this
 omega
end
end Go.Den
