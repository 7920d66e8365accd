import Derived.Test.YtbdjanjcphgjdaaDoorZ07
import Derived.Test.YtbdjanjcphgjdaaDoorZ08
set_option linter.unusedVariables false
set_option linter.unusedSimpArgs false
set_option linter.unusedSectionVars false
namespace Go.Den
open Go.Proofs
set_option linter.unusedVariables false
set_option linter.unusedSectionVars false
def sr (v : List ByteArray) : Rows := v.map fun s => [DV.val (.string s)]
@[reducible] def noS : ByteArray := ByteArray.mk #[]
def addV (v : List ByteArray) (s : ByteArray) : List ByteArray := if s = noS then v else if s ∈ v then v else v ++ [s]
theorem sr_len (v : List ByteArray) : (sr v).length = v.length := List.length_map ..
theorem sr_app (v : List ByteArray) (s : ByteArray) : sr v ++ [[DV.val (.string s)]] = sr (v ++ [s]) := by simp [sr]
theorem addV_len (v : List ByteArray) (s : ByteArray) : (addV v s).length ≤ v.length + 1 := by
  unfold addV
  split
  · omega
  · split
    · omega
    · simp
theorem fold_len : ∀ (l v : List ByteArray), (l.foldl addV v).length ≤ v.length + l.length
  | [], v => by simp
  | s :: l, v => by
    have h1 := fold_len l (addV v s)
    have h2 := addV_len v s
    simp only [List.foldl_cons, List.length_cons]
    omega
theorem sr_get {v : List ByteArray} {j : Nat} (h : j < v.length) : Row.S ((sr v).getD j []) 0 = v[j] := by
  rw [getD_get (by rw [sr_len]; exact h)]
  simp only [sr, List.getElem_map]; rfl
theorem mem_drop {v : List ByteArray} {j : Nat} (h : j < v.length) (s : ByteArray) : decide (s ∈ v.drop j) = (v[j] == s || decide (s ∈ v.drop (j + 1))) := by
  have hd : v.drop j = v[j] :: v.drop (j + 1) := List.drop_eq_getElem_cons h
  rw [hd]
  generalize v[j] = a
  generalize v.drop (j + 1) = m
  by_cases h1 : a = s
  · subst h1; simp
  · have h2 : ¬ s = a := fun e => h1 e.symm
    simp [h1, h2]
theorem Index_l {n : Nat} {b : Bool} {v : List ByteArray} {s : ByteArray} (hv : v.length < big) : ∀ k j : Nat, j + k = v.length → ∀ i, k < i → ∃ z : Int, slices_Index_l2 n b (sr v) s i (j : Int) = some (z, ()) ∧ decide (z ≥ 0) = decide (s ∈ v.drop j) := by
  intro k
  induction k with
  | zero =>
    intro j hj i hi
    obtain ⟨i, rfl⟩ : ∃ m, i = m + 1 := ⟨i - 1, by omega⟩
    rw [slices_Index_s2, List.drop_eq_nil_of_le (by omega)]
    have h1 : ¬ (j : Int) < ((sr v).length : Int) := by rw [sr_len]; omega
    refine ⟨-1, ?_, ?_⟩
    · simp only [h1, decide_false, cond_false]
    · simp
  | succ k ih =>
    intro j hj i hi
    obtain ⟨i, rfl⟩ : ∃ m, i = m + 1 := ⟨i - 1, by omega⟩
    have hlt : j < v.length := by omega
    have h1 : (j : Int) < ((sr v).length : Int) := by rw [sr_len]; omega
    have h2 : (0 : Int) ≤ (j : Int) := by omega
    obtain ⟨z, hz, hd⟩ := ih (j + 1) (by omega) i (by omega)
    rw [slices_Index_s2, mem_drop hlt, wrap_succ (show j < big by omega), hz]
    simp only [h1, h2, if_true, decide_true, cond_true, Int.toNat_natCast, sr_get hlt]
    by_cases he : s = v[j]
    · subst he
      exact ⟨j, by simp, by simp⟩
    · have he' : ¬ v[j] = s := fun e => he e.symm
      have hf : (s == v[j]) = false := by simpa using he
      have hf' : (v[j] == s) = false := by simpa using he'
      rw [hf, hf', ← hd]
      exact ⟨z, rfl, rfl⟩
theorem Contains_q {n : Nat} {b : Bool} {v : List ByteArray} {s : ByteArray} (hv : v.length < big) (hn : v.length < n) : slices_Contains_v n b (sr v) s = some (decide (s ∈ v), ()) := by
  rw [slices_Contains_e, slices_Index_e]
  obtain ⟨z, hz, hd⟩ := Index_l (n := n) (b := b) (s := s) hv v.length 0 (by omega) n hn
  rw [show (0 : Int) = ((0 : Nat) : Int) from rfl, hz]
  rw [List.drop_zero] at hd
  show some (decide (z ≥ 0), ()) = _
  rw [hd]
theorem Bound_1_q {n : Nat} {b b1 : Bool} {v : List ByteArray} {s s3 : ByteArray} {j2 : Int} (hv : v.length ≤ 2000000) (hn : 2000000 < n) : ∃ b', check_Bound_1_v n s b1 j2 s3 b (sr v) = some ((), (((b', sr (addV v s)), ()), ())) := by
  have hb : 4000000 ≤ big := by unfold big; omega
  rw [check_Bound_1_e, Contains_q (by omega) (by omega)]
  unfold addV
  by_cases h1 : s = noS
  · rw [if_pos h1]; exact ⟨b, by simp [h1]⟩
  · rw [if_neg h1]
    have h4 : (s == ByteArray.mk #[]) = false := by simpa using h1
    by_cases h2 : s ∈ v
    · rw [if_pos h2]; exact ⟨b, by simp [h4, h2, obind]⟩
    · rw [if_neg h2]
      refine ⟨b && List.isEmpty [[DV.val (Value.string s)]], ?_⟩
      have h3 : ((sr v).length + List.length [[DV.val (Value.string s)]]) * 16 ≤ 140737488355328 := by rw [sr_len]; show (v.length + 1) * 16 ≤ _; omega
      simp only [h4, cond_true, Bool.not_false, obind, h2, decide_false, if_pos h3]
      rw [show appX (sr v) [[DV.val (Value.string s)]] = sr (v ++ [s]) from sr_app v s]
def litVars (d : LitD) : List ByteArray := d.1.1 :: (d.2.2.1.map (·.1)) ++ [d.2.2.2.1]
def boundS (s0 : ByteArray) (l : List LitD) (k : Nat) : List ByteArray := ((l.take k).flatMap litVars).foldl addV (addV [] s0)
theorem terms_q {n : Nat} {l : Row} (h : (Row.R l 5).length ≤ 1000) :
    ∃ nl tr, check_terms_v n (Row.S l 0) (Row.B l 1) (Row.I l 2) (Row.S l 3) (Row.S l 4) (Row.N l 5) (Row.R l 5) (Row.S l 6) (Row.B l 7) (Row.I l 8) (Row.S l 9) = some ((nl, tr), ()) ∧ tr.map (Row.S · 0) = litVars (litD l) ∧ tr.length ≤ 1002 := by
  rw [check_terms_e]
  have h1 : (List.length [[DV.val (Value.string (Row.S l 0)), DV.val (Value.bool (Row.B l 1)), DV.val (Value.int IntKind.i64 (Row.I l 2)), DV.val (Value.string (Row.S l 3))]] + List.length (Row.R l 5)) * 48 ≤ 140737488355328 := by
    simp only [List.length_cons, List.length_nil]; omega
  have h2 : (List.length (appX [[DV.val (Value.string (Row.S l 0)), DV.val (Value.bool (Row.B l 1)), DV.val (Value.int IntKind.i64 (Row.I l 2)), DV.val (Value.string (Row.S l 3))]] (Row.R l 5)) + List.length [[DV.val (Value.string (Row.S l 6)), DV.val (Value.bool (Row.B l 7)), DV.val (Value.int IntKind.i64 (Row.I l 8)), DV.val (Value.string (Row.S l 9))]]) * 48 ≤ 140737488355328 := by
    simp only [appX, List.length_append, List.length_cons, List.length_nil]; omega
  rw [if_pos h1, if_pos h2]
  refine ⟨_, _, by cases (List.isEmpty [[DV.val (Value.string (Row.S l 0)), DV.val (Value.bool (Row.B l 1)), DV.val (Value.int IntKind.i64 (Row.I l 2)), DV.val (Value.string (Row.S l 3))]] || !List.isEmpty (Row.R l 5)) <;> rfl, ?_, ?_⟩
  · simp [appX, litVars, litD, tms, tmAt, Row.S, Row.at, Function.comp_def]
    exact ⟨rfl, rfl⟩
  · simp only [appX, List.length_append, List.length_cons, List.length_nil]; omega
theorem natj (q : Nat) : (0 : Int) ≤ (q : Int) := by omega
section
variable {n : Nat} {s0 s3 s4 s7 s10 : ByteArray} {b1 b5 b8 b11 : Bool} {j2 j9 j13 : Int} {r6 r12 : Rows}
structure BodyOk (r12 : Rows) : Prop where
  len : r12.length ≤ 1000
  lit : ∀ l ∈ r12, (Row.R l 5).length ≤ 1000
theorem Bound_l8 (hn : 2000000 < n) {r19 : Rows} {b18 : Bool} {i0 : Nat} {j27 : Int} (hr : r19.length ≤ 2000000) : ∀ k q : Nat, q + k = r19.length → ∀ (i1 : Nat) (b : Bool) (v : List ByteArray), k < i1 → v.length + k ≤ 2000000 →
    ∃ b', check_Bound_l8 n s0 b1 j2 s3 s4 b5 r6 s7 b8 j9 s10 b11 r12 j13 i0 i1 b18 r19 (r19.length : Int) b (sr v) (q : Int) j27 =
      check_Bound_l5 n s0 b1 j2 s3 s4 b5 r6 s7 b8 j9 s10 b11 r12 j13 i0 b' (sr (((r19.drop q).map (Row.S · 0)).foldl addV v)) (IntKind.wrap IntKind.i64 (j27 + 1)) := by
  have hb : 4000000 ≤ big := by unfold big; omega
  intro k
  induction k with
  | zero =>
    intro q hq i1 b v hi hv
    obtain ⟨i, rfl⟩ : ∃ m, i1 = m + 1 := ⟨i1 - 1, by omega⟩
    rw [check_Bound_s8, List.drop_eq_nil_of_le (by omega)]
    have h1 : ¬ (q : Int) < (r19.length : Int) := by omega
    simp only [h1, decide_false, cond_false, List.map_nil, List.foldl_nil]
    exact ⟨b, rfl⟩
  | succ k ih =>
    intro q hq i1 b v hi hv
    obtain ⟨i, rfl⟩ : ∃ m, i1 = m + 1 := ⟨i1 - 1, by omega⟩
    have hlt : q < r19.length := by omega
    have h1 : (q : Int) < (r19.length : Int) := by omega
    rw [check_Bound_s8, List.drop_eq_getElem_cons hlt, wrap_succ (show q < big by omega)]
    simp only [h1, natj, if_true, decide_true, cond_true, Int.toNat_natCast, getD_get hlt, List.map_cons, List.foldl_cons]
    obtain ⟨b', hb'⟩ := Bound_1_q (n := n) (b := b) (b1 := Row.B r19[q] 1) (v := v) (s := Row.S r19[q] 0) (s3 := Row.S r19[q] 3) (j2 := Row.I r19[q] 2) (by omega) hn
    rw [hb']
    have hl := addV_len v (Row.S r19[q] 0)
    obtain ⟨b2, h2⟩ := ih (q + 1) (by omega) i b' (addV v (Row.S r19[q] 0)) (by omega) (by omega)
    exact ⟨b2, h2⟩
theorem body_drop {r12 : Rows} {q : Nat} (h : q < r12.length) : (r12.map litD).drop q = litD r12[q] :: (r12.map litD).drop (q + 1) := by
  rw [List.drop_eq_getElem_cons (by rw [List.length_map]; exact h), List.getElem_map]
theorem take_drop' {kk q : Nat} {l : List LitD} (hq : q < kk) (hl : q < l.length) : (l.take kk).drop q = l[q] :: (l.take kk).drop (q + 1) := by
  rw [List.drop_eq_getElem_cons (by rw [List.length_take]; omega), List.getElem_take]
theorem litVars_len {l : Row} (h : (Row.R l 5).length ≤ 1000) : (litVars (litD l)).length ≤ 1002 := by
  simp [litVars, litD, tms]; omega
theorem Bound_l5 (hn : 2000000 < n) (hB : BodyOk r12) {kk : Nat} (hk : kk ≤ r12.length)
    (hlim : (if (r12.length : Int) < (if 0 > j13 then 0 else j13) then (r12.length : Int) else if 0 > j13 then 0 else j13) = (kk : Int)) :
    ∀ k q : Nat, q + k = kk → ∀ (i : Nat) (b : Bool) (v : List ByteArray), k < i → v.length + 1002 * k ≤ 1900000 →
    ∃ b', check_Bound_l5 n s0 b1 j2 s3 s4 b5 r6 s7 b8 j9 s10 b11 r12 j13 i b (sr v) (q : Int) = some ((b', sr (((((r12.map litD).take kk).drop q).flatMap litVars).foldl addV v)), ()) := by
  have hb : 4000000 ≤ big := by unfold big; omega
  have hlen := hB.len
  have htake : (List.drop 0 (List.take (Int.toNat (kk : Int)) r12)).length = kk := by simp; omega
  intro k
  induction k with
  | zero =>
    intro q hq i b v hi hv
    obtain ⟨i, rfl⟩ : ∃ m, i = m + 1 := ⟨i - 1, by omega⟩
    have hnil : ((r12.map litD).take kk).drop q = [] := List.drop_eq_nil_of_le (by rw [List.length_take]; omega)
    rw [check_Bound_s5, hlim, htake, hnil]
    have h1 : ¬ (q : Int) < (kk : Int) := by omega
    simp only [h1, decide_false, cond_false, List.flatMap_nil, List.foldl_nil]
    exact ⟨b, rfl⟩
  | succ k ih =>
    intro q hq i b v hi hv
    obtain ⟨i, rfl⟩ : ∃ m, i = m + 1 := ⟨i - 1, by omega⟩
    have hlt : q < r12.length := by omega
    have hlt2 : q < (List.drop 0 (List.take (Int.toNat (kk : Int)) r12)).length := by rw [htake]; omega
    have h1 : (q : Int) < (kk : Int) := by omega
    have hg : (List.drop 0 (List.take (Int.toNat (kk : Int)) r12))[q] = r12[q] := by simp
    rw [check_Bound_s5, hlim, htake, take_drop' (by omega) (by rw [List.length_map]; exact hlt), List.getElem_map, List.flatMap_cons, List.foldl_append]
    simp only [h1, natj, if_true, decide_true, cond_true, Int.toNat_natCast q, getD_get hlt2, hg]
    have hlit := hB.lit r12[q] (List.getElem_mem hlt)
    obtain ⟨nl, tr, ht, hmap, htl⟩ := terms_q (n := n) hlit
    rw [ht]
    have hvl := litVars_len hlit
    obtain ⟨b2, h2⟩ := Bound_l8 (n := n) (s0 := s0) (s3 := s3) (s4 := s4) (s7 := s7) (s10 := s10) (b1 := b1) (b5 := b5) (b8 := b8) (b11 := b11) (j2 := j2) (j9 := j9) (j13 := j13) (r6 := r6) (r12 := r12) hn (r19 := tr) (b18 := nl) (i0 := i) (j27 := (q : Int)) (by omega) tr.length 0 (by omega) n b v (by omega) (by omega)
    have hf := fold_len (litVars (litD r12[q])) v
    have hw : IntKind.wrap IntKind.i64 ((q : Int) + 1) = ((q + 1 : Nat) : Int) := wrap_succ (by omega)
    obtain ⟨b3, h3⟩ := ih (q + 1) (by omega) i b2 (((tr.drop 0).map (Row.S · 0)).foldl addV v) (by omega) (by rw [List.drop_zero, hmap]; omega)
    refine ⟨b3, ?_⟩
    rw [List.drop_zero, hmap] at h2 h3
    rw [hw] at h2
    exact h2.trans h3
theorem lim_eq (r12 : Rows) (j13 : Int) : (if (r12.length : Int) < (if 0 > j13 then 0 else j13) then (r12.length : Int) else if 0 > j13 then 0 else j13) = ((min j13.toNat r12.length : Nat) : Int) := by
  have h0 : (if 0 > j13 then 0 else j13) = (j13.toNat : Int) := by split <;> omega
  rw [h0]; split <;> omega
theorem take_min (l : List LitD) (k : Nat) : l.take (min k l.length) = l.take k := by
  by_cases h : k ≤ l.length
  · rw [Nat.min_eq_left h]
  · rw [Nat.min_eq_right (by omega), List.take_of_length_le (Nat.le_refl _), List.take_of_length_le (by omega)]
theorem Bound_q (hn : 2000000 < n) (hB : BodyOk r12) : ∃ b', check_Bound_v n s0 b1 j2 s3 s4 b5 r6 s7 b8 j9 s10 b11 r12 j13 = some ((b', sr (boundS s0 (r12.map litD) j13.toNat)), ()) := by
  have hlen := hB.len
  rw [check_Bound_e]
  obtain ⟨b', h1⟩ := Bound_1_q (n := n) (b := true) (b1 := b1) (v := []) (s := s0) (s3 := s3) (j2 := j2) (by simp) hn
  rw [show ([] : Rows) = sr [] from rfl, h1]
  simp only [obind]
  rw [lim_eq]
  have hle : ((min j13.toNat r12.length : Nat) : Int) ≤ (r12.length : Int) := by omega
  rw [if_pos (natj _), if_pos hle]
  have ha := addV_len [] s0
  obtain ⟨b2, h2⟩ := Bound_l5 (n := n) (s0 := s0) (s3 := s3) (s4 := s4) (s7 := s7) (s10 := s10) (b1 := b1) (b5 := b5) (b8 := b8) (b11 := b11) (j2 := j2) (j9 := j9) (j13 := j13) (r6 := r6) hn hB (kk := min j13.toNat r12.length) (by omega) (lim_eq r12 j13) (min j13.toNat r12.length) 0 (by omega) n b' (addV [] s0) (by omega) (by simp only [List.length_nil] at ha; omega)
  refine ⟨b2, h2.trans ?_⟩
  have := take_min (r12.map litD) j13.toNat
  rw [List.length_map] at this
  rw [List.drop_zero, this]; rfl
theorem Vars_q (hn : 2000000 < n) (hB : BodyOk r12) : ∃ b', check_Vars_v n s0 b1 j2 s3 s4 b5 r6 s7 b8 j9 s10 b11 r12 = some ((b', sr (boundS s0 (r12.map litD) r12.length)), ()) := by
  rw [check_Vars_e]
  obtain ⟨b', h⟩ := Bound_q (n := n) (s0 := s0) (s3 := s3) (s4 := s4) (s7 := s7) (s10 := s10) (b1 := b1) (b5 := b5) (b8 := b8) (b11 := b11) (j2 := j2) (j9 := j9) (j13 := (r12.length : Int)) (r6 := r6) hn hB
  rw [h, Int.toNat_natCast]; exact ⟨b', rfl⟩
theorem bound_len {s0 : ByteArray} {k : Nat} (hB : BodyOk r12) : (boundS s0 (r12.map litD) k).length ≤ 1900000 := by
  unfold boundS
  have h1 := fold_len (((r12.map litD).take k).flatMap litVars) (addV [] s0)
  have h2 := addV_len [] s0
  have h3 : ∀ l : Rows, (∀ x ∈ l, (Row.R x 5).length ≤ 1000) → ∀ k, (((l.map litD).take k).flatMap litVars).length ≤ 1002 * l.length := by
    intro l
    induction l with
    | nil => intro _ k; simp
    | cons x l ih =>
      intro hx k
      cases k with
      | zero => simp
      | succ k =>
        have := ih (fun y hy => hx y (by simp [hy])) k
        have := litVars_len (hx x (by simp))
        simp only [List.map_cons, List.take_succ_cons, List.flatMap_cons, List.length_append, List.length_cons]
        omega
  have := h3 r12 hB.lit k
  have := hB.len
  simp only [List.length_nil] at h2
  omega
end
end Go.Den
namespace Go.Den
open Go.Proofs
set_option linter.unusedVariables false
set_option linter.unusedSectionVars false
def isNo (t : Tm) : Bool := t.1 == noS && t.2.1
theorem cond_same {α : Type} (c : Bool) (x : α) : (bif c then x else x) = x := by cases c <;> rfl
def placeL : List LitD → Nat → Int
  | [], _ => -2
  | l :: t, q => if isNo l.1 || isNo l.2.2.2 then (q : Int) else placeL t (q + 1)
def placeD (d : RuleD) : Int := if isNo d.1 then -1 else if isNo d.2.2.2.1 then -1 else placeL d.2.2.2.2 0
theorem placeL_bd : ∀ (l : List LitD) (q : Nat), -2 ≤ placeL l q ∧ placeL l q ≤ (q : Int) + l.length
  | [], q => by unfold placeL; simp
  | l :: t, q => by
    unfold placeL
    have := placeL_bd t (q + 1)
    simp only [List.length_cons]
    split <;> omega
abbrev Seen := List (ByteArray × Int)
def se (l : Seen) : Rows := l.map fun p => [DV.val (.string p.1), DV.val (.int .i64 p.2)]
def findN : Seen → ByteArray → Option Int
  | [], _ => none
  | q :: l, p => if q.1 = p then some q.2 else findN l p
def oddD (l : Seen) (p : ByteArray) (n : Int) : Seen × Bool := match findN l p with | some m => (l, m != n) | none => (l ++ [(p, n)], false)
def aritL : Seen → List LitD → Nat → Seen × Int
  | s, [], _ => (s, -2)
  | s, l :: t, q => match oddD s l.2.1 (l.2.2.1.length : Int) with
    | (s', true) => (s', (q : Int))
    | (s', false) => aritL s' t (q + 1)
def aritD (s : Seen) (d : RuleD) : Seen × Int := match oddD s d.2.1 (d.2.2.1.length : Int) with
  | (s', true) => (s', -1)
  | (s', false) => aritL s' d.2.2.2.2 0
theorem findN_cons (q : ByteArray × Int) (l : Seen) (p : ByteArray) : findN (q :: l) p = if q.1 = p then some q.2 else findN l p := rfl
theorem sameD_str (a b : ByteArray) : sameD (.val (.string a)) (.val (.string b)) = (a == b) := rfl
theorem mhas_se : ∀ (l : Seen) (p : ByteArray), mhas (se l) (.val (.string p)) = (findN l p).isSome
  | [], _ => rfl
  | q :: l, p => by
    show (sameD (.val (.string p)) (.val (.string q.1)) || mhas (se l) (.val (.string p))) = _
    rw [mhas_se l p]
    rw [sameD_str, findN_cons]
    by_cases h : q.1 = p
    · simp [h]
    · have h' : ¬ p = q.1 := fun e => h e.symm
      simp [h, h']
theorem mget_se : ∀ (l : Seen) (p : ByteArray) (z : Row), mget (se l) (.val (.string p)) z = match findN l p with | some m => [.val (.string p), .val (.int .i64 m)] | none => z
  | [], _, _ => rfl
  | q :: l, p, z => by
    show (bif sameD (.val (.string p)) (.val (.string q.1)) then [.val (.string q.1), .val (.int .i64 q.2)] else mget (se l) (.val (.string p)) z) = _
    rw [mget_se l p z]
    rw [sameD_str, findN_cons]
    by_cases h : q.1 = p
    · subst h; simp
    · have h' : ¬ p = q.1 := fun e => h e.symm
      have hp : (p == q.1) = false := by simpa using h'
      rw [hp, if_neg h]; rfl
theorem mput_se : ∀ (l : Seen) (p : ByteArray) (m : Int), findN l p = none → mput (se l) (.val (.string p)) [.val (.string p), .val (.int .i64 m)] = se (l ++ [(p, m)])
  | [], _, _, _ => rfl
  | q :: l, p, m, h => by
    unfold findN at h
    split at h
    · cases h
    · rename_i hq
      have h' : ¬ p = q.1 := fun e => hq e.symm
      show (bif sameD (.val (.string p)) (.val (.string q.1)) then _ else _ :: mput (se l) (.val (.string p)) _) = _
      rw [mput_se l p m h]
      have hp : (p == q.1) = false := by simpa using h'
      rw [sameD_str, hp]; rfl
theorem arity_1_q {n : Nat} {l : Seen} {p : ByteArray} {m : Int} : check_arity_1_nilf_v n p m (se l) = some ((oddD l p m).2, (((), ()), (((), (se (oddD l p m).1, ())), ()))) := by
  rw [check_arity_1_nilf_e, mhas_se, mget_se]
  unfold oddD
  cases h : findN l p with
  | none => rw [mput_se l p m h]; rfl
  | some k => rfl
section
variable {n : Nat} {s0 s3 s4 s7 s10 : ByteArray} {b1 b5 b8 b11 : Bool} {j2 j9 j13 : Int} {r6 r12 : Rows}
theorem number_q {t : Tm} : check_number_v n t.1 t.2.1 t.2.2.1 t.2.2.2 = some (isNo t, ()) := by
  rw [check_number_e]; unfold isNo
  cases (t.1 == noS) <;> rfl
theorem place_1_q {l : Row} : check_place_1_v n (Row.S l 0) (Row.B l 1) (Row.I l 2) (Row.S l 3) (Row.S l 4) (Row.N l 5) (Row.R l 5) (Row.S l 6) (Row.B l 7) (Row.I l 8) (Row.S l 9) = some (isNo (litD l).1 || isNo (litD l).2.2.2, ()) := by
  rw [check_place_1_e]
  have h1 := number_q (n := n) (t := (litD l).1)
  have h2 := number_q (n := n) (t := (litD l).2.2.2)
  rw [show check_number_v n (Row.S l 0) (Row.B l 1) (Row.I l 2) (Row.S l 3) = _ from h1]
  simp only [obind]
  rw [show check_number_v n (Row.S l 6) (Row.B l 7) (Row.I l 8) (Row.S l 9) = _ from h2]
  cases isNo (litD l).1 <;> rfl
theorem place_ix {z : Row} {b : Bool} (hl : r12.length ≤ 1000) : ∀ k q : Nat, q + k = r12.length → ∀ i, k < i → sI_check_place_1_l2 n b (z :: r12) i ((q + 1 : Nat) : Int) = some (placeL ((r12.map litD).drop q) q + 1, ()) := by
  have hb : 4000000 ≤ big := by unfold big; omega
  intro k
  induction k with
  | zero =>
    intro q hq i hi
    obtain ⟨i, rfl⟩ : ∃ m, i = m + 1 := ⟨i - 1, by omega⟩
    rw [sI_check_place_1_s2, List.drop_eq_nil_of_le (by rw [List.length_map]; omega)]
    have h1 : ¬ ((q + 1 : Nat) : Int) < ((z :: r12).length : Int) := by simp only [List.length_cons]; omega
    simp only [h1, decide_false, cond_false]; rfl
  | succ k ih =>
    intro q hq i hi
    obtain ⟨i, rfl⟩ : ∃ m, i = m + 1 := ⟨i - 1, by omega⟩
    have hlt : q < r12.length := by omega
    have hlt2 : q + 1 < (z :: r12).length := by simp only [List.length_cons]; omega
    have h1 : ((q + 1 : Nat) : Int) < ((z :: r12).length : Int) := by simp only [List.length_cons]; omega
    rw [sI_check_place_1_s2, body_drop hlt, wrap_succ (show q + 1 < big by omega)]
    simp only [h1, natj, if_true, decide_true, cond_true, Int.toNat_natCast, getD_get hlt2, List.getElem_cons_succ]
    rw [place_1_q]
    unfold placeL
    cases h : (isNo (litD r12[q]).1 || isNo (litD r12[q]).2.2.2) with
    | true => simp only [obind, cond_true, if_true]; simp
    | false =>
      simp only [obind, cond_false]
      rw [if_neg (by simp)]
      exact ih (q + 1) (by omega) i (by omega)
theorem place_q {r : Row} (hn : 2000000 < n) (hl : (Row.R r 10).length ≤ 1000) : check_place_v n (Row.S r 0) (Row.B r 1) (Row.I r 2) (Row.S r 3) (Row.S r 4) (Row.N r 5) (Row.R r 5) (Row.S r 6) (Row.B r 7) (Row.I r 8) (Row.S r 9) (Row.N r 10) (Row.R r 10) = some (placeD (ruleD r), ()) := by
  rw [check_place_e]
  have h1 := number_q (n := n) (t := (ruleD r).1)
  have h2 := number_q (n := n) (t := (ruleD r).2.2.2.1)
  rw [show check_number_v n (Row.S r 0) (Row.B r 1) (Row.I r 2) (Row.S r 3) = _ from h1]
  simp only [obind]
  rw [show check_number_v n (Row.S r 6) (Row.B r 7) (Row.I r 8) (Row.S r 9) = _ from h2]
  unfold placeD
  cases isNo (ruleD r).1 with
  | true => rfl
  | false =>
    cases isNo (ruleD r).2.2.2.1 with
    | true => rfl
    | false =>
      simp only [cond_false]
      rw [if_pos (show (1 + (Row.R r 10).length) * 136 ≤ 140737488355328 by omega), sI_check_place_1_e]
      obtain ⟨m, rfl⟩ : ∃ m, n = m + 1 := ⟨n - 1, by omega⟩
      have hs : ∀ z : Row, appX [z] (Row.R r 10) = z :: Row.R r 10 := fun _ => rfl
      rw [hs, sI_check_place_1_s2]
      have h3 : (0 : Int) < ((([DV.val (Value.string (ByteArray.mk #[])), DV.val (Value.bool false), DV.val (Value.int IntKind.i64 0), DV.val (Value.string (ByteArray.mk #[])), DV.val (Value.string (ByteArray.mk #[])), DV.sl true [Kd.s, Kd.b, Kd.i IntKind.i64, Kd.s] [], DV.val (Value.string (ByteArray.mk #[])), DV.val (Value.bool false), DV.val (Value.int IntKind.i64 0), DV.val (Value.string (ByteArray.mk #[]))] : Row) :: Row.R r 10).length : Int) := by simp only [List.length_cons]; omega
      rw [decide_eq_true h3, if_pos (Int.le_refl 0), if_pos h3]
      have hp := place_1_q (n := m + 1) (l := [DV.val (Value.string (ByteArray.mk #[])), DV.val (Value.bool false), DV.val (Value.int IntKind.i64 0), DV.val (Value.string (ByteArray.mk #[])), DV.val (Value.string (ByteArray.mk #[])), DV.sl true [Kd.s, Kd.b, Kd.i IntKind.i64, Kd.s] [], DV.val (Value.string (ByteArray.mk #[])), DV.val (Value.bool false), DV.val (Value.int IntKind.i64 0), DV.val (Value.string (ByteArray.mk #[]))])
      have hix := place_ix (n := m + 1) (r12 := Row.R r 10) (z := [DV.val (Value.string (ByteArray.mk #[])), DV.val (Value.bool false), DV.val (Value.int IntKind.i64 0), DV.val (Value.string (ByteArray.mk #[])), DV.val (Value.string (ByteArray.mk #[])), DV.sl true [Kd.s, Kd.b, Kd.i IntKind.i64, Kd.s] [], DV.val (Value.string (ByteArray.mk #[])), DV.val (Value.bool false), DV.val (Value.int IntKind.i64 0), DV.val (Value.string (ByteArray.mk #[]))]) (b := false && List.isEmpty (Row.R r 10)) hl (Row.R r 10).length 0 (by omega) m (by omega)
      simp only [cond_true]
      erw [hp]
      have hbd := placeL_bd ((Row.R r 10).map litD) 0
      rw [List.length_map] at hbd
      have hw0 : IntKind.wrap IntKind.i64 (0 + 1) = ((0 + 1 : Nat) : Int) := wrap_succ (j := 0) (by unfold big; omega)
      rw [hw0]
      simp only [obind]
      rw [show isNo (litD [DV.val (Value.string (ByteArray.mk #[])), DV.val (Value.bool false), DV.val (Value.int IntKind.i64 0), DV.val (Value.string (ByteArray.mk #[])), DV.val (Value.string (ByteArray.mk #[])), DV.sl true [Kd.s, Kd.b, Kd.i IntKind.i64, Kd.s] [], DV.val (Value.string (ByteArray.mk #[])), DV.val (Value.bool false), DV.val (Value.int IntKind.i64 0), DV.val (Value.string (ByteArray.mk #[]))]).1 = false from rfl, show isNo (litD [DV.val (Value.string (ByteArray.mk #[])), DV.val (Value.bool false), DV.val (Value.int IntKind.i64 0), DV.val (Value.string (ByteArray.mk #[])), DV.val (Value.string (ByteArray.mk #[])), DV.sl true [Kd.s, Kd.b, Kd.i IntKind.i64, Kd.s] [], DV.val (Value.string (ByteArray.mk #[])), DV.val (Value.bool false), DV.val (Value.int IntKind.i64 0), DV.val (Value.string (ByteArray.mk #[]))]).2.2.2 = false from rfl]
      simp only [Bool.or_false, cond_false]
      rw [hix]
      simp only [List.drop_zero]
      rw [wrap_small (by omega) (by omega)]
      rw [cond_same, Int.add_sub_cancel]; rfl
theorem arity_l {sn0 : Rows} (hl : r12.length ≤ 1000) : ∀ k q : Nat, q + k = r12.length → ∀ (i : Nat) (s : Seen), k < i →
    check_arity_nilf_l5 n s0 b1 j2 s3 s4 b5 r6 s7 b8 j9 s10 b11 r12 sn0 i (se s) (q : Int) = some ((aritL s ((r12.map litD).drop q) q).2, (((), (se (aritL s ((r12.map litD).drop q) q).1, ())), ())) := by
  have hb : 4000000 ≤ big := by unfold big; omega
  intro k
  induction k with
  | zero =>
    intro q hq i s hi
    obtain ⟨i, rfl⟩ : ∃ m, i = m + 1 := ⟨i - 1, by omega⟩
    rw [check_arity_nilf_s5, List.drop_eq_nil_of_le (by rw [List.length_map]; omega)]
    have h1 : ¬ (q : Int) < (r12.length : Int) := by omega
    simp only [h1, decide_false, cond_false]; rfl
  | succ k ih =>
    intro q hq i s hi
    obtain ⟨i, rfl⟩ : ∃ m, i = m + 1 := ⟨i - 1, by omega⟩
    have hlt : q < r12.length := by omega
    have h1 : (q : Int) < (r12.length : Int) := by omega
    rw [check_arity_nilf_s5, body_drop hlt, wrap_succ (show q < big by omega)]
    simp only [h1, natj, if_true, decide_true, cond_true, Int.toNat_natCast, getD_get hlt]
    rw [arity_1_q]
    unfold aritL
    have he : ((litD r12[q]).2.2.1.length : Int) = ((Row.R r12[q] 5).length : Int) := by simp [litD, tms]
    rw [he, show (litD r12[q]).2.1 = Row.S r12[q] 4 from rfl]
    simp only [obind]
    rcases h : oddD s (Row.S r12[q] 4) ((Row.R r12[q] 5).length : Int) with ⟨s', bad⟩
    cases bad with
    | true => rfl
    | false => exact ih (q + 1) (by omega) i s' (by omega)
theorem arity_q {r : Row} {s : Seen} (hn : 2000000 < n) (hl : (Row.R r 10).length ≤ 1000) : check_arity_nilf_v n (Row.S r 0) (Row.B r 1) (Row.I r 2) (Row.S r 3) (Row.S r 4) (Row.N r 5) (Row.R r 5) (Row.S r 6) (Row.B r 7) (Row.I r 8) (Row.S r 9) (Row.N r 10) (Row.R r 10) (se s) =
    some ((aritD s (ruleD r)).2, (((), (se (aritD s (ruleD r)).1, ())), ())) := by
  rw [check_arity_nilf_e, arity_1_q]
  unfold aritD
  have he : ((ruleD r).2.2.1.length : Int) = ((Row.R r 5).length : Int) := by simp [ruleD, tms]
  rw [he, show (ruleD r).2.1 = Row.S r 4 from rfl]
  simp only [obind]
  rcases h : oddD s (Row.S r 4) ((Row.R r 5).length : Int) with ⟨s', bad⟩
  cases bad with
  | true => rfl
  | false =>
    have := arity_l (n := n) (s0 := Row.S r 0) (b1 := Row.B r 1) (j2 := Row.I r 2) (s3 := Row.S r 3) (s4 := Row.S r 4) (b5 := Row.N r 5) (r6 := Row.R r 5) (s7 := Row.S r 6) (b8 := Row.B r 7) (j9 := Row.I r 8) (s10 := Row.S r 9) (b11 := Row.N r 10) (r12 := Row.R r 10) (sn0 := se s) hl (Row.R r 10).length 0 (by omega) n s' (by omega)
    exact this
def freeL (home : ByteArray) (body : List LitD) : List LitD → Nat → Int
  | [], _ => -2
  | l :: t, q => if l.2.2.2.1 = noS then freeL home body t (q + 1) else if l.2.2.2.1 ∈ boundS home body q then freeL home body t (q + 1) else (q : Int)
def freeR (d : RuleD) : Int := freeL d.1.1 d.2.2.2.2 d.2.2.2.2 0
theorem free_l (hn : 2000000 < n) (hB : BodyOk r12) : ∀ k q : Nat, q + k = r12.length → ∀ i, k < i →
    check_free_l2 n s0 b1 j2 s3 s4 b5 r6 s7 b8 j9 s10 b11 r12 i (q : Int) = some (freeL s0 (r12.map litD) ((r12.map litD).drop q) q, ()) := by
  have hb : 4000000 ≤ big := by unfold big; omega
  have hl := hB.len
  intro k
  induction k with
  | zero =>
    intro q hq i hi
    obtain ⟨i, rfl⟩ : ∃ m, i = m + 1 := ⟨i - 1, by omega⟩
    rw [check_free_s2, List.drop_eq_nil_of_le (by rw [List.length_map]; omega)]
    have h1 : ¬ (q : Int) < (r12.length : Int) := by omega
    simp only [h1, decide_false, cond_false]; rfl
  | succ k ih =>
    intro q hq i hi
    obtain ⟨i, rfl⟩ : ∃ m, i = m + 1 := ⟨i - 1, by omega⟩
    have hlt : q < r12.length := by omega
    have h1 : (q : Int) < (r12.length : Int) := by omega
    rw [check_free_s2, body_drop hlt, wrap_succ (show q < big by omega)]
    simp only [h1, natj, if_true, decide_true, cond_true, Int.toNat_natCast, getD_get hlt]
    unfold freeL
    rw [show (litD r12[q]).2.2.2.1 = Row.S r12[q] 6 from rfl]
    have ih' := ih (q + 1) (by omega) i (by omega)
    by_cases h : Row.S r12[q] 6 = noS
    · rw [if_pos h, h]; exact ih'
    · rw [if_neg h]
      have h' : (!Row.S r12[q] 6 == noS) = true := by simp [h]
      rw [h']
      obtain ⟨b', hb'⟩ := Bound_q (n := n) (s0 := s0) (s3 := s3) (s4 := s4) (s7 := s7) (s10 := s10) (b1 := b1) (b5 := b5) (b8 := b8) (b11 := b11) (j2 := j2) (j9 := j9) (j13 := (q : Int)) (r6 := r6) hn hB
      have hbl := bound_len (r12 := r12) (s0 := s0) (k := q) hB
      rw [hb', Int.toNat_natCast]
      simp only [cond_true, obind]
      rw [Contains_q (by omega) (by omega)]
      by_cases h2 : Row.S r12[q] 6 ∈ boundS s0 (r12.map litD) q
      · rw [if_pos h2, decide_eq_true h2]; exact ih'
      · rw [if_neg h2, decide_eq_false h2]; rfl
theorem free_q {r : Row} (hn : 2000000 < n) (hB : BodyOk (Row.R r 10)) : check_free_v n (Row.S r 0) (Row.B r 1) (Row.I r 2) (Row.S r 3) (Row.S r 4) (Row.N r 5) (Row.R r 5) (Row.S r 6) (Row.B r 7) (Row.I r 8) (Row.S r 9) (Row.N r 10) (Row.R r 10) = some (freeR (ruleD r), ()) := by
  rw [check_free_e]
  have hl := hB.len
  exact free_l hn hB (Row.R r 10).length 0 (by omega) n (by omega)
def openL (v : List ByteArray) : List Tm → Bool
  | [] => false
  | t :: l => if t.1 = noS then openL v l else if t.1 ∈ v then openL v l else true
def openD (d : RuleD) : Bool := openL (boundS d.1.1 d.2.2.2.2 d.2.2.2.2.length) (d.2.2.2.1 :: d.2.2.1)
theorem open_1_q {t : Tm} {v : List ByteArray} {b : Bool} (hv : v.length ≤ 1900000) (hn : 2000000 < n) : check_open_1_v n t.1 t.2.1 t.2.2.1 t.2.2.2 b (sr v) = some (if t.1 = noS then false else !decide (t.1 ∈ v), (((b, sr v), ()), ())) := by
  have hb : 4000000 ≤ big := by unfold big; omega
  rw [check_open_1_e]
  by_cases h : t.1 = noS
  · rw [if_pos h, h]; rfl
  · rw [if_neg h, show (!t.1 == noS) = true by simp [h], Contains_q (by omega) (by omega)]; rfl
theorem open_ix {l : Rows} {v : List ByteArray} {bb b2 : Bool} {rr : Rows} (hl : l.length ≤ 2000) (hv : v.length ≤ 1900000) (hn : 2000000 < n) : ∀ k q : Nat, q + k = l.length → ∀ i, k < i →
    ∃ z : Int, sI_i2_check_open_1_l2 n bb l b2 rr i (q : Int) b2 (sr v) = some (z, (((b2, sr v), ()), ())) ∧ decide (z ≥ 0) = openL v ((tms l).drop q) := by
  have hb : 4000000 ≤ big := by unfold big; omega
  intro k
  induction k with
  | zero =>
    intro q hq i hi
    obtain ⟨i, rfl⟩ : ∃ m, i = m + 1 := ⟨i - 1, by omega⟩
    rw [sI_i2_check_open_1_s2, List.drop_eq_nil_of_le (by rw [tms_len]; omega)]
    have h1 : ¬ (q : Int) < (l.length : Int) := by omega
    simp only [h1, decide_false, cond_false]
    exact ⟨-1, rfl, rfl⟩
  | succ k ih =>
    intro q hq i hi
    obtain ⟨i, rfl⟩ : ∃ m, i = m + 1 := ⟨i - 1, by omega⟩
    have hlt : q < l.length := by omega
    have h1 : (q : Int) < (l.length : Int) := by omega
    have hd : (tms l).drop q = tmAt l[q] 0 :: (tms l).drop (q + 1) := by
      rw [List.drop_eq_getElem_cons (by rw [tms_len]; exact hlt)]; simp [tms]
    rw [sI_i2_check_open_1_s2, hd, wrap_succ (show q < big by omega)]
    simp only [h1, natj, if_true, decide_true, cond_true, Int.toNat_natCast, getD_get hlt]
    have ho := open_1_q (n := n) (t := tmAt l[q] 0) (v := v) (b := b2) hv hn
    rw [show check_open_1_v n (Row.S l[q] 0) (Row.B l[q] 1) (Row.I l[q] 2) (Row.S l[q] 3) b2 (sr v) = _ from ho]
    simp only [obind]
    unfold openL
    obtain ⟨z, h2, h3⟩ := ih (q + 1) (by omega) i (by omega)
    by_cases h : (tmAt l[q] 0).1 = noS
    · rw [if_pos h, if_pos h]; exact ⟨z, h2, h3⟩
    · rw [if_neg h, if_neg h]
      by_cases h4 : (tmAt l[q] 0).1 ∈ v
      · rw [if_pos h4, decide_eq_true h4]; exact ⟨z, h2, h3⟩
      · rw [if_neg h4, decide_eq_false h4]; exact ⟨q, rfl, by simp⟩
theorem open_q {r : Row} (hn : 2000000 < n) (hB : BodyOk (Row.R r 10)) (ha : (Row.R r 5).length ≤ 1000) : check_open_v n (Row.S r 0) (Row.B r 1) (Row.I r 2) (Row.S r 3) (Row.S r 4) (Row.N r 5) (Row.R r 5) (Row.S r 6) (Row.B r 7) (Row.I r 8) (Row.S r 9) (Row.N r 10) (Row.R r 10) = some (openD (ruleD r), ()) := by
  rw [check_open_e]
  obtain ⟨b', h⟩ := Vars_q (n := n) (s0 := Row.S r 0) (b1 := Row.B r 1) (j2 := Row.I r 2) (s3 := Row.S r 3) (s4 := Row.S r 4) (b5 := Row.N r 5) (r6 := Row.R r 5) (s7 := Row.S r 6) (b8 := Row.B r 7) (j9 := Row.I r 8) (s10 := Row.S r 9) (b11 := Row.N r 10) (r12 := Row.R r 10) hn hB
  have hbl := bound_len (r12 := Row.R r 10) (s0 := Row.S r 0) (k := (Row.R r 10).length) hB
  rw [h]
  simp only [obind]
  rw [if_pos (by simp only [List.length_cons, List.length_nil]; omega), sC_check_open_1_e, sI_i2_check_open_1_e]
  obtain ⟨z, h2, h3⟩ := open_ix (n := n) (l := appX [[DV.val (Value.string (Row.S r 6)), DV.val (Value.bool (Row.B r 7)), DV.val (Value.int IntKind.i64 (Row.I r 8)), DV.val (Value.string (Row.S r 9))]] (Row.R r 5)) (v := boundS (Row.S r 0) ((Row.R r 10).map litD) (Row.R r 10).length) (bb := false && List.isEmpty (Row.R r 5)) (b2 := b') (rr := sr (boundS (Row.S r 0) ((Row.R r 10).map litD) (Row.R r 10).length)) (by simp only [appX, List.length_append, List.length_cons, List.length_nil]; omega) hbl hn ((Row.R r 5).length + 1) 0 (by simp only [appX, List.length_append, List.length_cons, List.length_nil]; omega) n (by omega)
  rw [show (0 : Int) = ((0 : Nat) : Int) from rfl, h2]
  simp only [obind]
  rw [show decide (z ≥ ((0 : Nat) : Int)) = _ from h3]
  unfold openD
  rw [cond_same, show (ruleD r).2.2.2.2.length = (Row.R r 10).length by simp [ruleD]]
  rfl
end
end Go.Den
namespace Go.Den
open Go.Proofs
set_option linter.unusedVariables false
set_option maxRecDepth 20000
def progS : Rows → Nat → Seen → Int × Int × Int
  | [], _, _ => (0, -1, -1)
  | r :: t, i, s =>
    match ruleR r with
    | none => (100, (i : Int), -1)
    | some _ =>
      bif decide (placeD (ruleD r) > -2) then (101, (i : Int), placeD (ruleD r)) else
      bif decide ((aritD s (ruleD r)).2 > -2) then (102, (i : Int), (aritD s (ruleD r)).2) else
      bif decide (freeR (ruleD r) > -2) then (103, (i : Int), freeR (ruleD r)) else
      bif openD (ruleD r) then (104, (i : Int), -1) else progS t (i + 1) (aritD s (ruleD r)).1
def outP (x : Int × Int × Int) : (Int × Int × Int × Unit) × Unit := ((x.1, (x.2.1, (x.2.2, ()))), ())
def progC (l : Rows) : Int × Int × Int := bif decide ((l.length : Int) > 16) then (81, -1, -1) else progS l 0 []
theorem bodyOk {n : Nat} {r : Row} (h : RuleOk n r) : BodyOk (Row.R r 10) := ⟨h.blen, fun l hl => (h.body l hl).len⟩
theorem Program_l {n : Nat} {b0 : Bool} {r1 : Rows} (hn : 2000000 < n) (hl : r1.length ≤ 1000) (h : ∀ r ∈ r1, RuleOk n r) : ∀ k q : Nat, q + k = r1.length → ∀ (i : Nat) (s : Seen), k < i →
    check_Program_l5 n b0 r1 i (q : Int) (se s) = some (outP (progS (r1.drop q) q s)) := by
  have hb : 4000000 ≤ big := by unfold big; omega
  intro k
  induction k with
  | zero =>
    intro q hq i s hi
    obtain ⟨i, rfl⟩ : ∃ m, i = m + 1 := ⟨i - 1, by omega⟩
    have hnil : r1.drop q = [] := List.drop_eq_nil_of_le (by omega)
    rw [check_Program_s5, hnil]
    have h1 : ¬ (q : Int) < (r1.length : Int) := by omega
    simp only [h1, decide_false, cond_false]; rfl
  | succ k ih =>
    intro q hq i s hi
    obtain ⟨i, rfl⟩ : ∃ m, i = m + 1 := ⟨i - 1, by omega⟩
    have hlt : q < r1.length := by omega
    have h1 : (q : Int) < (r1.length : Int) := by omega
    have hd : r1.drop q = r1[q] :: r1.drop (q + 1) := List.drop_eq_getElem_cons hlt
    have hr := h r1[q] (List.getElem_mem hlt)
    rw [check_Program_s5, hd, wrap_succ (show q < big by omega)]
    simp only [h1, natj, if_true, decide_true, cond_true, Int.toNat_natCast, getD_get hlt]
    rw [show_Rule_q (by omega) hr, prule_ref]
    unfold progS
    cases hs : ruleR r1[q] with
    | none => rfl
    | some u =>
      simp only [outS, obind]
      rw [place_q hn hr.blen]
      simp only [bne_self_eq_false, cond_false]
      cases hp : decide (placeD (ruleD r1[q]) > -2) with
      | true => rfl
      | false =>
        simp only [cond_false]
        rw [arity_q hn hr.blen]
        simp only
        cases ha : decide ((aritD s (ruleD r1[q])).2 > -2) with
        | true => rfl
        | false =>
          simp only [cond_false]
          rw [free_q hn (bodyOk hr)]
          simp only
          cases hf : decide (freeR (ruleD r1[q]) > -2) with
          | true => rfl
          | false =>
            simp only [cond_false]
            rw [open_q hn (bodyOk hr) hr.len]
            simp only
            cases ho : openD (ruleD r1[q]) with
            | true => rfl
            | false => exact ih (q + 1) (by omega) i _ (by omega)
theorem Program_q {n : Nat} {b0 : Bool} {r1 : Rows} (hn : 2000000 < n) (hl : r1.length ≤ 1000) (h : ∀ r ∈ r1, RuleOk n r) : check_Program_v n b0 r1 = some (outP (progC r1)) := by
  rw [check_Program_e]
  unfold progC
  cases hd : decide ((r1.length : Int) > 16) with
  | true => rfl
  | false => exact Program_l hn hl h r1.length 0 (by omega) n [] (by omega)
def tmB (t : Tm) : Bool := decide (-9223372036854775808 ≤ t.2.2.1) && (decide (t.2.2.1 ≤ 9223372036854775807) && decide (t.2.2.2.size ≤ 5000))
def argsB : Rows → Bool
  | [] => true
  | r :: l => tmB (tmAt r 0) && argsB l
def litB' (l : Row) : Bool := tmB (tmAt l 0) && (decide ((Row.S l 4).size ≤ 5000) && (decide ((Row.R l 5).length ≤ 1000) && (argsB (Row.R l 5) && tmB (tmAt l 6))))
def litsB : Rows → Bool
  | [] => true
  | r :: l => litB' r && litsB l
def ruleB' (r : Row) : Bool := tmB (tmAt r 0) && (decide ((Row.S r 4).size ≤ 5000) && (decide ((Row.R r 5).length ≤ 1000) && (argsB (Row.R r 5) && (tmB (tmAt r 6) && (decide ((Row.R r 10).length ≤ 1000) && litsB (Row.R r 10))))))
def rulesB : Rows → Bool
  | [] => true
  | r :: l => ruleB' r && rulesB l
theorem tmB_ok {n : Nat} (hn : 10000 < n) {t : Tm} (h : tmB t = true) : TmOk n t := by
  unfold tmB at h
  simp only [Bool.and_eq_true, decide_eq_true_eq] at h
  exact ⟨h.1, h.2.1, by omega, by omega⟩
theorem argsB_ok {n : Nat} (hn : 10000 < n) : ∀ {l : Rows}, argsB l = true → ∀ r ∈ l, TmOk n (tmAt r 0)
  | [], _, r, hr => by cases hr
  | a :: l, h, r, hr => by
    unfold argsB at h
    rw [Bool.and_eq_true] at h
    rcases List.mem_cons.1 hr with rfl | hr
    · exact tmB_ok hn h.1
    · exact argsB_ok hn h.2 r hr
theorem litB_ok' {n : Nat} (hn : 10000 < n) {l : Row} (h : litB' l = true) : LitOk n l := by
  unfold litB' at h
  simp only [Bool.and_eq_true, decide_eq_true_eq] at h
  exact ⟨tmB_ok hn h.1, h.2.1, h.2.2.1, argsB_ok hn h.2.2.2.1, tmB_ok hn h.2.2.2.2⟩
theorem litsB_ok {n : Nat} (hn : 10000 < n) : ∀ {l : Rows}, litsB l = true → ∀ r ∈ l, LitOk n r
  | [], _, r, hr => by cases hr
  | a :: l, h, r, hr => by
    unfold litsB at h
    rw [Bool.and_eq_true] at h
    rcases List.mem_cons.1 hr with rfl | hr
    · exact litB_ok' hn h.1
    · exact litsB_ok hn h.2 r hr
theorem ruleB_ok' {n : Nat} (hn : 10000 < n) {r : Row} (h : ruleB' r = true) : RuleOk n r := by
  unfold ruleB' at h
  simp only [Bool.and_eq_true, decide_eq_true_eq] at h
  exact ⟨tmB_ok hn h.1, h.2.1, h.2.2.1, argsB_ok hn h.2.2.2.1, tmB_ok hn h.2.2.2.2.1, h.2.2.2.2.2.1, litsB_ok hn h.2.2.2.2.2.2⟩
theorem rulesB_ok {n : Nat} (hn : 10000 < n) : ∀ {l : Rows}, rulesB l = true → ∀ r ∈ l, RuleOk n r
  | [], _, r, hr => by cases hr
  | a :: l, h, r, hr => by
    unfold rulesB at h
    rw [Bool.and_eq_true] at h
    rcases List.mem_cons.1 hr with rfl | hr
    · exact ruleB_ok' hn h.1
    · exact rulesB_ok hn h.2 r hr
def rowsOf' (s : ByteArray) : Rows := match parseE s with | .ok l => l | .error _ => []
end Go.Den
