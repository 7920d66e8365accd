import Derived.Test.YtbdjanjcphgjdaaGreatDoorZ23
set_option linter.unusedVariables false
set_option linter.unusedSimpArgs false
set_option linter.unusedSectionVars false
namespace Go.Den
open Go.Proofs
set_option linter.unusedVariables false
set_option linter.unusedSectionVars false
def sr (v : List ByteArray) : Rows := v.map fun s => [DV.val (.string s)]
@[reducible] def noS : ByteArray := ByteArray.mk #[]
def addV (v : List ByteArray) (s : ByteArray) : List ByteArray := if s = noS then v else if s ∈ v then v else v ++ [s]
theorem sr_len (v : List ByteArray) : (sr v).length = v.length := List.length_map ..
theorem sr_app (v : List ByteArray) (s : ByteArray) : sr v ++ [[DV.val (.string s)]] = sr (v ++ [s]) := by simp [sr]
theorem addV_len (v : List ByteArray) (s : ByteArray) : (addV v s).length ≤ v.length + 1 := by
 unfold addV
 split
 ·omega
 ·split
  ·omega
  ·simp
theorem fold_len : ∀ (l v : List ByteArray), (l.foldl addV v).length ≤ v.length + l.length
 |[], v => by simp
 |s :: l, v => by
  have h1 := fold_len l (addV v s)
  have h2 := addV_len v s
  simp only [List.foldl_cons, List.length_cons]
  omega
theorem sr_get {v : List ByteArray} {j : Nat} (h : j < v.length) : Row.S ((sr v).getD j []) 0 = v[j] := by
 rw [getD_get (by rw [sr_len]; exact h)]
 simp only [sr, List.getElem_map]; rfl
theorem mem_drop {v : List ByteArray} {j : Nat} (h : j < v.length) (s : ByteArray) : decide (s ∈ v.drop j) = (v[j] == s || decide (s ∈ v.drop (j + 1))) := by
 have hd : v.drop j = v[j] :: v.drop (j + 1) := List.drop_eq_getElem_cons h
 rw [hd]
 generalize v[j] = a
 generalize v.drop (j + 1) = m
 by_cases h1 : a = s
 ·subst h1; simp
 ·have h2 : ¬ s = a := fun e => h1 e.symm
  simp [h1, h2]
theorem Has_l {n : Nat} {b : Bool} {v : List ByteArray} {s : ByteArray} (hv : v.length < big) : ∀ k j : Nat, j + k = v.length → ∀ i, k < i → z85_l2 n b (sr v) s i (j : Int) = some (decide (s ∈ v.drop j), ()) := by
 intro k
 induction k with
 |zero =>
  intro j hj i hi
  obtain ⟨i, rfl⟩ : ∃ m, i = m + 1 := ⟨i - 1, by omega⟩
  rw [z85_s2, List.drop_eq_nil_of_le (by omega)]
  have h1 : ¬ (j : Int) < ((sr v).length : Int) := by rw [sr_len]; omega
  simp only [h1, decide_false, cond_false, List.not_mem_nil]
 |succ k ih =>
  intro j hj i hi
  obtain ⟨i, rfl⟩ : ∃ m, i = m + 1 := ⟨i - 1, by omega⟩
  have hlt : j < v.length := by omega
  have h1 : (j : Int) < ((sr v).length : Int) := by rw [sr_len]; omega
  have h2 : (0 : Int) ≤ (j : Int) := by omega
  rw [z85_s2, mem_drop hlt, wrap_succ (show j < big by omega), ih (j + 1) (by omega) i (by omega)]
  simp only [h1, h2, if_true, decide_true, cond_true, Int.toNat_natCast, sr_get hlt]
  cases (v[j] == s) <;> rfl
theorem Has_q {n : Nat} {b : Bool} {v : List ByteArray} {s : ByteArray} (hv : v.length < big) (hn : v.length < n) : z85_v n b (sr v) s = some (decide (s ∈ v), ()) := by
 rw [z85_e]; exact Has_l hv v.length 0 (by omega) n hn
theorem Index_l {n : Nat} {b : Bool} {v : List ByteArray} {s : ByteArray} (hv : v.length < big) : ∀ k j : Nat, j + k = v.length → ∀ i, k < i → ∃ z : Int, z28_l2 n b (sr v) s i (j : Int) = some (z, ()) ∧ decide (z ≥ 0) = decide (s ∈ v.drop j) := by
 intro k
 induction k with
 |zero =>
  intro j hj i hi
  obtain ⟨i, rfl⟩ : ∃ m, i = m + 1 := ⟨i - 1, by omega⟩
  rw [z28_s2, List.drop_eq_nil_of_le (by omega)]
  have h1 : ¬ (j : Int) < ((sr v).length : Int) := by rw [sr_len]; omega
  refine ⟨-1, ?_, ?_⟩
  ·simp only [h1, decide_false, cond_false]
  ·simp
 |succ k ih =>
  intro j hj i hi
  obtain ⟨i, rfl⟩ : ∃ m, i = m + 1 := ⟨i - 1, by omega⟩
  have hlt : j < v.length := by omega
  have h1 : (j : Int) < ((sr v).length : Int) := by rw [sr_len]; omega
  have h2 : (0 : Int) ≤ (j : Int) := by omega
  obtain ⟨z, hz, hd⟩ := ih (j + 1) (by omega) i (by omega)
  rw [z28_s2, mem_drop hlt, wrap_succ (show j < big by omega), hz]
  simp only [h1, h2, if_true, decide_true, cond_true, Int.toNat_natCast, sr_get hlt]
  by_cases he : s = v[j]
  ·subst he
   exact ⟨j, by simp, by simp⟩
  ·have he' : ¬ v[j] = s := fun e => he e.symm
   have hf : (s == v[j]) = false := by simpa using he
   have hf' : (v[j] == s) = false := by simpa using he'
   rw [hf, hf', ← hd]
   exact ⟨z, rfl, rfl⟩
theorem Contains_q {n : Nat} {b : Bool} {v : List ByteArray} {s : ByteArray} (hv : v.length < big) (hn : v.length < n) : z10_v n b (sr v) s = some (decide (s ∈ v), ()) := by
 rw [z10_e, z28_e]
 obtain ⟨z, hz, hd⟩ := Index_l (n := n) (b := b) (s := s) hv v.length 0 (by omega) n hn
 rw [show (0 : Int) = ((0 : Nat) : Int) from rfl, hz]
 rw [List.drop_zero] at hd
 show some (decide (z ≥ 0), ()) = _
 rw [hd]
theorem with_q {n : Nat} {b b1 : Bool} {v : List ByteArray} {s s3 : ByteArray} {j2 : Int} (hv : v.length ≤ 2000000) (hn : 2000000 < n) : ∃ b', z50_v n b (sr v) s b1 j2 s3 = some ((b', sr (addV v s)), ()) := by
 have hb : 4000000 ≤ big := by unfold big; omega
 rw [z50_e, Has_q (by omega) (by omega)]
 unfold addV
 by_cases h1 : s = noS
 ·rw [if_pos h1]; exact ⟨b, by simp [h1]⟩
 ·rw [if_neg h1]
  by_cases h2 : s ∈ v
  ·rw [if_pos h2]; exact ⟨b, by simp [h1, h2, obind]⟩
  ·rw [if_neg h2]
   refine ⟨b && List.isEmpty [[DV.val (Value.string s)]], ?_⟩
   have h3 : ((sr v).length + List.length [[DV.val (Value.string s)]]) * 16 ≤ 140737488355328 := by rw [sr_len]; show (v.length + 1) * 16 ≤ _; omega
   have h4 : (s == ByteArray.mk #[]) = false := by simpa using h1
   simp only [h4, cond_false, obind, h2, decide_false, if_pos h3]
   rw [show appX (sr v) [[DV.val (Value.string s)]] = sr (v ++ [s]) from sr_app v s]
theorem Bound_1_q {n : Nat} {b b1 : Bool} {v : List ByteArray} {s s3 : ByteArray} {j2 : Int} (hv : v.length ≤ 2000000) (hn : 2000000 < n) : ∃ b', z13_v n s b1 j2 s3 b (sr v) = some ((), (((b', sr (addV v s)), ()), ())) := by
 have hb : 4000000 ≤ big := by unfold big; omega
 rw [z13_e, Contains_q (by omega) (by omega)]
 unfold addV
 by_cases h1 : s = noS
 ·rw [if_pos h1]; exact ⟨b, by simp [h1]⟩
 ·rw [if_neg h1]
  have h4 : (s == ByteArray.mk #[]) = false := by simpa using h1
  by_cases h2 : s ∈ v
  ·rw [if_pos h2]; exact ⟨b, by simp [h4, h2, obind]⟩
  ·rw [if_neg h2]
   refine ⟨b && List.isEmpty [[DV.val (Value.string s)]], ?_⟩
   have h3 : ((sr v).length + List.length [[DV.val (Value.string s)]]) * 16 ≤ 140737488355328 := by rw [sr_len]; show (v.length + 1) * 16 ≤ _; omega
   simp only [h4, cond_true, Bool.not_false, obind, h2, decide_false, if_pos h3]
   rw [show appX (sr v) [[DV.val (Value.string s)]] = sr (v ++ [s]) from sr_app v s]
def litVars (d : LitD) : List ByteArray := d.1.1 :: (d.2.2.1.map (·.1)) ++ [d.2.2.2.1]
def boundS (s0 : ByteArray) (l : List LitD) (k : Nat) : List ByteArray := ((l.take k).flatMap litVars).foldl addV (addV [] s0)
theorem terms_q {n : Nat} {l : Row} (h : (Row.R l 5).length ≤ 1000) :
  ∃ nl tr, z40_v n (Row.S l 0) (Row.B l 1) (Row.I l 2) (Row.S l 3) (Row.S l 4) (Row.N l 5) (Row.R l 5) (Row.S l 6) (Row.B l 7) (Row.I l 8) (Row.S l 9) = some ((nl, tr), ()) ∧ tr.map (Row.S · 0) = litVars (litD l) ∧ tr.length ≤ 1002 := by
 rw [z40_e]
 have h1 : (List.length [[DV.val (Value.string (Row.S l 0)), DV.val (Value.bool (Row.B l 1)), DV.val (Value.int IntKind.i64 (Row.I l 2)), DV.val (Value.string (Row.S l 3))]] + List.length (Row.R l 5)) * 48 ≤ 140737488355328 := by
  simp only [List.length_cons, List.length_nil]; omega
 have h2 : (List.length (appX [[DV.val (Value.string (Row.S l 0)), DV.val (Value.bool (Row.B l 1)), DV.val (Value.int IntKind.i64 (Row.I l 2)), DV.val (Value.string (Row.S l 3))]] (Row.R l 5)) + List.length [[DV.val (Value.string (Row.S l 6)), DV.val (Value.bool (Row.B l 7)), DV.val (Value.int IntKind.i64 (Row.I l 8)), DV.val (Value.string (Row.S l 9))]]) * 48 ≤ 140737488355328 := by
  simp only [appX, List.length_append, List.length_cons, List.length_nil]; omega
 rw [if_pos h1, if_pos h2]
 refine ⟨_, _, by cases (List.isEmpty [[DV.val (Value.string (Row.S l 0)), DV.val (Value.bool (Row.B l 1)), DV.val (Value.int IntKind.i64 (Row.I l 2)), DV.val (Value.string (Row.S l 3))]] || !List.isEmpty (Row.R l 5)) <;> rfl, ?_, ?_⟩
 ·simp [appX, litVars, litD, tms, tmAt, Row.S, Row.at, Function.comp_def]
  exact ⟨rfl, rfl⟩
 ·simp only [appX, List.length_append, List.length_cons, List.length_nil]; omega
theorem natj (q : Nat) : (0 : Int) ≤ (q : Int) := by omega
section
variable {n : Nat} {s0 s3 s4 s7 s10 : ByteArray} {b1 b5 b8 b11 : Bool} {j2 j9 j13 : Int} {r6 r12 : Rows}
structure BodyOk (r12 : Rows) : Prop where
 len : r12.length ≤ 1000
 lit : ∀ l ∈ r12, (Row.R l 5).length ≤ 1000
theorem Bound_l8 (hn : 2000000 < n) {r19 : Rows} {b18 : Bool} {i0 : Nat} {j27 : Int} (hr : r19.length ≤ 2000000) : ∀ k q : Nat, q + k = r19.length → ∀ (i1 : Nat) (b : Bool) (v : List ByteArray), k < i1 → v.length + k ≤ 2000000 →
  ∃ b', z33_l8 n s0 b1 j2 s3 s4 b5 r6 s7 b8 j9 s10 b11 r12 j13 i0 i1 b18 r19 (r19.length : Int) b (sr v) (q : Int) j27 =
   z33_l5 n s0 b1 j2 s3 s4 b5 r6 s7 b8 j9 s10 b11 r12 j13 i0 b' (sr (((r19.drop q).map (Row.S · 0)).foldl addV v)) (IntKind.wrap IntKind.i64 (j27 + 1)) := by
 have hb : 4000000 ≤ big := by unfold big; omega
 intro k
 induction k with
 |zero =>
  intro q hq i1 b v hi hv
  obtain ⟨i, rfl⟩ : ∃ m, i1 = m + 1 := ⟨i1 - 1, by omega⟩
  rw [z33_s8, List.drop_eq_nil_of_le (by omega)]
  have h1 : ¬ (q : Int) < (r19.length : Int) := by omega
  simp only [h1, decide_false, cond_false, List.map_nil, List.foldl_nil]
  exact ⟨b, rfl⟩
 |succ k ih =>
  intro q hq i1 b v hi hv
  obtain ⟨i, rfl⟩ : ∃ m, i1 = m + 1 := ⟨i1 - 1, by omega⟩
  have hlt : q < r19.length := by omega
  have h1 : (q : Int) < (r19.length : Int) := by omega
  rw [z33_s8, List.drop_eq_getElem_cons hlt, wrap_succ (show q < big by omega)]
  simp only [h1, natj, if_true, decide_true, cond_true, Int.toNat_natCast, getD_get hlt, List.map_cons, List.foldl_cons]
  obtain ⟨b', hb'⟩ := Bound_1_q (n := n) (b := b) (b1 := Row.B r19[q] 1) (v := v) (s := Row.S r19[q] 0) (s3 := Row.S r19[q] 3) (j2 := Row.I r19[q] 2) (by omega) hn
  rw [hb']
  have hl := addV_len v (Row.S r19[q] 0)
  obtain ⟨b2, h2⟩ := ih (q + 1) (by omega) i b' (addV v (Row.S r19[q] 0)) (by omega) (by omega)
  exact ⟨b2, h2⟩
theorem body_drop {r12 : Rows} {q : Nat} (h : q < r12.length) : (r12.map litD).drop q = litD r12[q] :: (r12.map litD).drop (q + 1) := by
 rw [List.drop_eq_getElem_cons (by rw [List.length_map]; exact h), List.getElem_map]
theorem take_drop' {kk q : Nat} {l : List LitD} (hq : q < kk) (hl : q < l.length) : (l.take kk).drop q = l[q] :: (l.take kk).drop (q + 1) := by
 rw [List.drop_eq_getElem_cons (by rw [List.length_take]; omega), List.getElem_take]
theorem litVars_len {l : Row} (h : (Row.R l 5).length ≤ 1000) : (litVars (litD l)).length ≤ 1002 := by
 simp [litVars, litD, tms]; omega
theorem Bound_l5 (hn : 2000000 < n) (hB : BodyOk r12) {kk : Nat} (hk : kk ≤ r12.length)
  (hlim : (if (r12.length : Int) < (if 0 > j13 then 0 else j13) then (r12.length : Int) else if 0 > j13 then 0 else j13) = (kk : Int)) :
  ∀ k q : Nat, q + k = kk → ∀ (i : Nat) (b : Bool) (v : List ByteArray), k < i → v.length + 1002 * k ≤ 1900000 →
  ∃ b', z33_l5 n s0 b1 j2 s3 s4 b5 r6 s7 b8 j9 s10 b11 r12 j13 i b (sr v) (q : Int) = some ((b', sr (((((r12.map litD).take kk).drop q).flatMap litVars).foldl addV v)), ()) := by
 have hb : 4000000 ≤ big := by unfold big; omega
 have hlen := hB.len
 have htake : (List.drop 0 (List.take (Int.toNat (kk : Int)) r12)).length = kk := by simp; omega
 intro k
 induction k with
 |zero =>
  intro q hq i b v hi hv
  obtain ⟨i, rfl⟩ : ∃ m, i = m + 1 := ⟨i - 1, by omega⟩
  have hnil : ((r12.map litD).take kk).drop q = [] := List.drop_eq_nil_of_le (by rw [List.length_take]; omega)
  rw [z33_s5, hlim, htake, hnil]
  have h1 : ¬ (q : Int) < (kk : Int) := by omega
  simp only [h1, decide_false, cond_false, List.flatMap_nil, List.foldl_nil]
  exact ⟨b, rfl⟩
 |succ k ih =>
  intro q hq i b v hi hv
  obtain ⟨i, rfl⟩ : ∃ m, i = m + 1 := ⟨i - 1, by omega⟩
  have hlt : q < r12.length := by omega
  have hlt2 : q < (List.drop 0 (List.take (Int.toNat (kk : Int)) r12)).length := by rw [htake]; omega
  have h1 : (q : Int) < (kk : Int) := by omega
  have hg : (List.drop 0 (List.take (Int.toNat (kk : Int)) r12))[q] = r12[q] := by simp
  rw [z33_s5, hlim, htake, take_drop' (by omega) (by rw [List.length_map]; exact hlt), List.getElem_map, List.flatMap_cons, List.foldl_append]
  simp only [h1, natj, if_true, decide_true, cond_true, Int.toNat_natCast q, getD_get hlt2, hg]
  have hlit := hB.lit r12[q] (List.getElem_mem hlt)
  obtain ⟨nl, tr, ht, hmap, htl⟩ := terms_q (n := n) hlit
  rw [ht]
  have hvl := litVars_len hlit
  obtain ⟨b2, h2⟩ := Bound_l8 (n := n) (s0 := s0) (s3 := s3) (s4 := s4) (s7 := s7) (s10 := s10) (b1 := b1) (b5 := b5) (b8 := b8) (b11 := b11) (j2 := j2) (j9 := j9) (j13 := j13) (r6 := r6) (r12 := r12) hn (r19 := tr) (b18 := nl) (i0 := i) (j27 := (q : Int)) (by omega) tr.length 0 (by omega) n b v (by omega) (by omega)
  have hf := fold_len (litVars (litD r12[q])) v
  have hw : IntKind.wrap IntKind.i64 ((q : Int) + 1) = ((q + 1 : Nat) : Int) := wrap_succ (by omega)
  obtain ⟨b3, h3⟩ := ih (q + 1) (by omega) i b2 (((tr.drop 0).map (Row.S · 0)).foldl addV v) (by omega) (by rw [List.drop_zero, hmap]; omega)
  refine ⟨b3, ?_⟩
  rw [List.drop_zero, hmap] at h2 h3
  rw [hw] at h2
  exact h2.trans h3
theorem lim_eq (r12 : Rows) (j13 : Int) : (if (r12.length : Int) < (if 0 > j13 then 0 else j13) then (r12.length : Int) else if 0 > j13 then 0 else j13) = ((min j13.toNat r12.length : Nat) : Int) := by
 have h0 : (if 0 > j13 then 0 else j13) = (j13.toNat : Int) := by split <;> omega
 rw [h0]; split <;> omega
theorem take_min (l : List LitD) (k : Nat) : l.take (min k l.length) = l.take k := by
 by_cases h : k ≤ l.length
 ·rw [Nat.min_eq_left h]
 ·rw [Nat.min_eq_right (by omega), List.take_of_length_le (Nat.le_refl _), List.take_of_length_le (by omega)]
theorem Bound_q (hn : 2000000 < n) (hB : BodyOk r12) : ∃ b', z33_v n s0 b1 j2 s3 s4 b5 r6 s7 b8 j9 s10 b11 r12 j13 = some ((b', sr (boundS s0 (r12.map litD) j13.toNat)), ()) := by
 have hlen := hB.len
 rw [z33_e]
 obtain ⟨b', h1⟩ := Bound_1_q (n := n) (b := true) (b1 := b1) (v := []) (s := s0) (s3 := s3) (j2 := j2) (by simp) hn
 rw [show ([] : Rows) = sr [] from rfl, h1]
 simp only [obind]
 rw [lim_eq]
 have hle : ((min j13.toNat r12.length : Nat) : Int) ≤ (r12.length : Int) := by omega
 rw [if_pos (natj _), if_pos hle]
 have ha := addV_len [] s0
 obtain ⟨b2, h2⟩ := Bound_l5 (n := n) (s0 := s0) (s3 := s3) (s4 := s4) (s7 := s7) (s10 := s10) (b1 := b1) (b5 := b5) (b8 := b8) (b11 := b11) (j2 := j2) (j9 := j9) (j13 := j13) (r6 := r6) hn hB (kk := min j13.toNat r12.length) (by omega) (lim_eq r12 j13) (min j13.toNat r12.length) 0 (by omega) n b' (addV [] s0) (by omega) (by simp only [List.length_nil] at ha; omega)
 refine ⟨b2, h2.trans ?_⟩
 have := take_min (r12.map litD) j13.toNat
 rw [List.length_map] at this
 rw [List.drop_zero, this]; rfl
theorem Vars_q (hn : 2000000 < n) (hB : BodyOk r12) : ∃ b', z66_v n s0 b1 j2 s3 s4 b5 r6 s7 b8 j9 s10 b11 r12 = some ((b', sr (boundS s0 (r12.map litD) r12.length)), ()) := by
 rw [z66_e]
 obtain ⟨b', h⟩ := Bound_q (n := n) (s0 := s0) (s3 := s3) (s4 := s4) (s7 := s7) (s10 := s10) (b1 := b1) (b5 := b5) (b8 := b8) (b11 := b11) (j2 := j2) (j9 := j9) (j13 := (r12.length : Int)) (r6 := r6) hn hB
 rw [h, Int.toNat_natCast]; exact ⟨b', rfl⟩
theorem rBound_l7 (hn : 2000000 < n) (hB : BodyOk r12) {q : Nat} (hq : q < r12.length) : ∀ k a : Nat, a + k = (Row.R r12[q] 5).length → ∀ (i0 i1 : Nat) (b : Bool) (v : List ByteArray), k < i1 → v.length + k ≤ 1950000 →
  ∃ b', z37_l7 n s0 b1 j2 s3 s4 b5 r6 s7 b8 j9 s10 b11 r12 j13 i0 i1 b (sr v) (a : Int) (q : Int) =
   z37_l3 n s0 b1 j2 s3 s4 b5 r6 s7 b8 j9 s10 b11 r12 j13 i0 b' (sr (((((Row.R r12[q] 5).drop a).map (Row.S · 0)) ++ [Row.S r12[q] 6]).foldl addV v)) ((q + 1 : Nat) : Int) := by
 have hb : 4000000 ≤ big := by unfold big; omega
 have hlen := hB.len
 have hlit := hB.lit r12[q] (List.getElem_mem hq)
 have hq1 : (q : Int) < (r12.length : Int) := by omega
 have hw : IntKind.wrap IntKind.i64 ((q : Int) + 1) = ((q + 1 : Nat) : Int) := wrap_succ (by omega)
 intro k
 induction k with
 |zero =>
  intro a ha i0 i1 b v hi hv
  obtain ⟨i, rfl⟩ : ∃ m, i1 = m + 1 := ⟨i1 - 1, by omega⟩
  rw [z37_s7, List.drop_eq_nil_of_le (by omega)]
  simp only [hq1, natj, if_true, Int.toNat_natCast, getD_get hq]
  have h1 : ¬ (a : Int) < ((Row.R r12[q] 5).length : Int) := by omega
  simp only [h1, decide_false, cond_false, List.map_nil, List.nil_append, List.foldl_cons, List.foldl_nil]
  obtain ⟨b', h⟩ := with_q (n := n) (b := b) (v := v) (s := Row.S r12[q] 6) (b1 := Row.B r12[q] 7) (j2 := Row.I r12[q] 8) (s3 := Row.S r12[q] 9) (by omega) hn
  rw [h, hw]
  exact ⟨b', rfl⟩
 |succ k ih =>
  intro a ha i0 i1 b v hi hv
  obtain ⟨i, rfl⟩ : ∃ m, i1 = m + 1 := ⟨i1 - 1, by omega⟩
  have hlt : a < (Row.R r12[q] 5).length := by omega
  have h1 : (a : Int) < ((Row.R r12[q] 5).length : Int) := by omega
  rw [z37_s7, List.drop_eq_getElem_cons hlt]
  simp only [hq1, natj, if_true, Int.toNat_natCast, getD_get hq, h1, decide_true, cond_true, getD_get hlt, List.map_cons, List.cons_append, List.foldl_cons]
  obtain ⟨b', h⟩ := with_q (n := n) (b := b) (v := v) (s := Row.S (Row.R r12[q] 5)[a] 0) (b1 := Row.B (Row.R r12[q] 5)[a] 1) (j2 := Row.I (Row.R r12[q] 5)[a] 2) (s3 := Row.S (Row.R r12[q] 5)[a] 3) (by omega) hn
  rw [h, wrap_succ (show a < big by omega)]
  have := addV_len v (Row.S (Row.R r12[q] 5)[a] 0)
  exact ih (a + 1) (by omega) i0 i b' _ (by omega) (by omega)
theorem rBound_l3 (hn : 2000000 < n) (hB : BodyOk r12) : ∀ k q : Nat, q + k = min j13.toNat r12.length → ∀ (i : Nat) (b : Bool) (v : List ByteArray), k < i → v.length + 1002 * k ≤ 1900000 →
  ∃ b', z37_l3 n s0 b1 j2 s3 s4 b5 r6 s7 b8 j9 s10 b11 r12 j13 i b (sr v) (q : Int) = some ((b', sr (((((r12.map litD).take j13.toNat).drop q).flatMap litVars).foldl addV v)), ()) := by
 have hb : 4000000 ≤ big := by unfold big; omega
 have hlen := hB.len
 intro k
 induction k with
 |zero =>
  intro q hq i b v hi hv
  obtain ⟨i, rfl⟩ : ∃ m, i = m + 1 := ⟨i - 1, by omega⟩
  rw [z37_s3, List.drop_eq_nil_of_le (by rw [List.length_take, List.length_map]; omega)]
  simp only [List.flatMap_nil, List.foldl_nil]
  by_cases h1 : (q : Int) < (r12.length : Int)
  ·have h2 : ¬ (q : Int) < j13 := by omega
   simp only [h1, h2, decide_true, decide_false, cond_true, cond_false]
   exact ⟨b, rfl⟩
  ·simp only [h1, decide_false, cond_false]
   exact ⟨b, rfl⟩
 |succ k ih =>
  intro q hq i b v hi hv
  obtain ⟨i, rfl⟩ : ∃ m, i = m + 1 := ⟨i - 1, by omega⟩
  have hlt : q < r12.length := by omega
  have h1 : (q : Int) < (r12.length : Int) := by omega
  have h2 : (q : Int) < j13 := by omega
  rw [z37_s3, take_drop' (by omega) (by rw [List.length_map]; exact hlt), List.getElem_map, List.flatMap_cons, List.foldl_append]
  simp only [h1, h2, natj, if_true, decide_true, cond_true, Int.toNat_natCast, getD_get hlt]
  have hlit := hB.lit r12[q] (List.getElem_mem hlt)
  obtain ⟨b', h⟩ := with_q (n := n) (b := b) (v := v) (s := Row.S r12[q] 0) (b1 := Row.B r12[q] 1) (j2 := Row.I r12[q] 2) (s3 := Row.S r12[q] 3) (by omega) hn
  rw [h]
  have ha := addV_len v (Row.S r12[q] 0)
  obtain ⟨b2, h2⟩ := rBound_l7 (n := n) (s0 := s0) (s3 := s3) (s4 := s4) (s7 := s7) (s10 := s10) (b1 := b1) (b5 := b5) (b8 := b8) (b11 := b11) (j2 := j2) (j9 := j9) (j13 := j13) (r6 := r6) hn hB hlt (Row.R r12[q] 5).length 0 (by omega) i n b' (addV v (Row.S r12[q] 0)) (by omega) (by omega)
  have he : ((Row.R r12[q] 5).drop 0).map (Row.S · 0) ++ [Row.S r12[q] 6] = ((tms (Row.R r12[q] 5)).map (·.1)) ++ [Row.S r12[q] 6] := by simp [tms, tmAt, Function.comp_def]
  have hf : (litVars (litD r12[q])).foldl addV v = ((tms (Row.R r12[q] 5)).map (·.1) ++ [Row.S r12[q] 6]).foldl addV (addV v (Row.S r12[q] 0)) := rfl
  have hl := fold_len (litVars (litD r12[q])) v
  have hvl := litVars_len hlit
  rw [he, ← hf] at h2
  obtain ⟨b3, h3⟩ := ih (q + 1) (by omega) i b2 ((litVars (litD r12[q])).foldl addV v) (by omega) (by omega)
  exact ⟨b3, h2.trans h3⟩
theorem rBound_q (hn : 2000000 < n) (hB : BodyOk r12) : ∃ b', z37_v n s0 b1 j2 s3 s4 b5 r6 s7 b8 j9 s10 b11 r12 j13 = some ((b', sr (boundS s0 (r12.map litD) j13.toNat)), ()) := by
 have hlen := hB.len
 rw [z37_e]
 obtain ⟨b', h1⟩ := with_q (n := n) (b := true) (b1 := b1) (v := []) (s := s0) (s3 := s3) (j2 := j2) (by simp) hn
 rw [show ([] : Rows) = sr [] from rfl, h1]
 have ha := addV_len [] s0
 obtain ⟨b2, h2⟩ := rBound_l3 (n := n) (s0 := s0) (s3 := s3) (s4 := s4) (s7 := s7) (s10 := s10) (b1 := b1) (b5 := b5) (b8 := b8) (b11 := b11) (j2 := j2) (j9 := j9) (j13 := j13) (r6 := r6) hn hB (min j13.toNat r12.length) 0 (by omega) n b' (addV [] s0) (by omega) (by simp only [List.length_nil] at ha; omega)
 rw [List.drop_zero] at h2
 exact ⟨b2, h2⟩
theorem rVars_q (hn : 2000000 < n) (hB : BodyOk r12) : ∃ b', z49_v n s0 b1 j2 s3 s4 b5 r6 s7 b8 j9 s10 b11 r12 = some ((b', sr (boundS s0 (r12.map litD) r12.length)), ()) := by
 rw [z49_e]
 obtain ⟨b', h⟩ := rBound_q (n := n) (s0 := s0) (s3 := s3) (s4 := s4) (s7 := s7) (s10 := s10) (b1 := b1) (b5 := b5) (b8 := b8) (b11 := b11) (j2 := j2) (j9 := j9) (j13 := (r12.length : Int)) (r6 := r6) hn hB
 rw [h, Int.toNat_natCast]; exact ⟨b', rfl⟩
theorem bound_len {s0 : ByteArray} {k : Nat} (hB : BodyOk r12) : (boundS s0 (r12.map litD) k).length ≤ 1900000 := by
 unfold boundS
 have h1 := fold_len (((r12.map litD).take k).flatMap litVars) (addV [] s0)
 have h2 := addV_len [] s0
 have h3 : ∀ l : Rows, (∀ x ∈ l, (Row.R x 5).length ≤ 1000) → ∀ k, (((l.map litD).take k).flatMap litVars).length ≤ 1002 * l.length := by
  intro l
  induction l with
  |nil => intro _ k; simp
  |cons x l ih =>
   intro hx k
   cases k with
   |zero => simp
   |succ k =>
    have := ih (fun y hy => hx y (by simp [hy])) k
    have := litVars_len (hx x (by simp))
    simp only [List.map_cons, List.take_succ_cons, List.flatMap_cons, List.length_append, List.length_cons]
    omega
 have := h3 r12 hB.lit k
 have := hB.len
 simp only [List.length_nil] at h2
 omega
end
end Go.Den
