import Derived.Test.YtbdjanjcphgjdaaGreatDoorZ28
set_option linter.unusedVariables false
set_option linter.unusedSimpArgs false
set_option linter.unusedSectionVars false
namespace Go.Den
open Go.Proofs
set_option linter.unusedVariables false
set_option linter.unusedSectionVars false
def isNo (t : Tm) : Bool := t.1 == noS && t.2.1
theorem cond_same {α : Type} (c : Bool) (x : α) : (bif c then x else x) = x := by cases c <;> rfl
def placeL : List LitD → Nat → Int
 |[], _ => -2
 |l :: t, q => if isNo l.1 || isNo l.2.2.2 then (q : Int) else placeL t (q + 1)
def placeD (d : RuleD) : Int := if isNo d.1 then -1 else if isNo d.2.2.2.1 then -1 else placeL d.2.2.2.2 0
theorem placeL_bd : ∀ (l : List LitD) (q : Nat), -2 ≤ placeL l q ∧ placeL l q ≤ (q : Int) + l.length
 |[], q => by unfold placeL; simp
 |l :: t, q => by
  unfold placeL
  have := placeL_bd t (q + 1)
  simp only [List.length_cons]
  split <;> omega
abbrev Seen := List (ByteArray × Int)
def se (l : Seen) : Rows := l.map fun p => [DV.val (.string p.1), DV.val (.int .i64 p.2)]
def findN : Seen → ByteArray → Option Int
 |[], _ => none
 |q :: l, p => if q.1 = p then some q.2 else findN l p
def oddD (l : Seen) (p : ByteArray) (n : Int) : Seen × Bool := match findN l p with | some m => (l, m != n) | none => (l ++ [(p, n)], false)
def aritL : Seen → List LitD → Nat → Seen × Int
 |s, [], _ => (s, -2)
 |s, l :: t, q => match oddD s l.2.1 (l.2.2.1.length : Int) with
  |(s', true) => (s', (q : Int))
  |(s', false) => aritL s' t (q + 1)
def aritD (s : Seen) (d : RuleD) : Seen × Int := match oddD s d.2.1 (d.2.2.1.length : Int) with
 |(s', true) => (s', -1)
 |(s', false) => aritL s' d.2.2.2.2 0
theorem findN_cons (q : ByteArray × Int) (l : Seen) (p : ByteArray) : findN (q :: l) p = if q.1 = p then some q.2 else findN l p := rfl
theorem sameD_str (a b : ByteArray) : sameD (.val (.string a)) (.val (.string b)) = (a == b) := rfl
theorem mhas_se : ∀ (l : Seen) (p : ByteArray), mhas (se l) (.val (.string p)) = (findN l p).isSome
 |[], _ => rfl
 |q :: l, p => by
  show (sameD (.val (.string p)) (.val (.string q.1)) || mhas (se l) (.val (.string p))) = _
  rw [mhas_se l p]
  rw [sameD_str, findN_cons]
  by_cases h : q.1 = p
  ·simp [h]
  ·have h' : ¬ p = q.1 := fun e => h e.symm
   simp [h, h']
theorem mget_se : ∀ (l : Seen) (p : ByteArray) (z : Row), mget (se l) (.val (.string p)) z = match findN l p with | some m => [.val (.string p), .val (.int .i64 m)] | none => z
 |[], _, _ => rfl
 |q :: l, p, z => by
  show (bif sameD (.val (.string p)) (.val (.string q.1)) then [.val (.string q.1), .val (.int .i64 q.2)] else mget (se l) (.val (.string p)) z) = _
  rw [mget_se l p z]
  rw [sameD_str, findN_cons]
  by_cases h : q.1 = p
  ·subst h; simp
  ·have h' : ¬ p = q.1 := fun e => h e.symm
   have hp : (p == q.1) = false := by simpa using h'
   rw [hp, if_neg h]; rfl
theorem mput_se : ∀ (l : Seen) (p : ByteArray) (m : Int), findN l p = none → mput (se l) (.val (.string p)) [.val (.string p), .val (.int .i64 m)] = se (l ++ [(p, m)])
 |[], _, _, _ => rfl
 |q :: l, p, m, h => by
  unfold findN at h
  split at h
  ·cases h
  ·rename_i hq
   have h' : ¬ p = q.1 := fun e => hq e.symm
   show (bif sameD (.val (.string p)) (.val (.string q.1)) then _ else _ :: mput (se l) (.val (.string p)) _) = _
   rw [mput_se l p m h]
   have hp : (p == q.1) = false := by simpa using h'
   rw [sameD_str, hp]; rfl
theorem arity_1_q {n : Nat} {l : Seen} {p : ByteArray} {m : Int} : z4_v n p m (se l) = some ((oddD l p m).2, (((), ()), (((), (se (oddD l p m).1, ())), ()))) := by
 rw [z4_e, mhas_se, mget_se]
 unfold oddD
 cases h : findN l p with
 |none => rw [mput_se l p m h]; rfl
 |some k => rfl
section
variable {n : Nat} {s0 s3 s4 s7 s10 : ByteArray} {b1 b5 b8 b11 : Bool} {j2 j9 j13 : Int} {r6 r12 : Rows}
theorem number_q {t : Tm} : z23_v n t.1 t.2.1 t.2.2.1 t.2.2.2 = some (isNo t, ()) := by
 rw [z23_e]; unfold isNo
 cases (t.1 == noS) <;> rfl
theorem place_1_q {l : Row} : z15_v n (Row.S l 0) (Row.B l 1) (Row.I l 2) (Row.S l 3) (Row.S l 4) (Row.N l 5) (Row.R l 5) (Row.S l 6) (Row.B l 7) (Row.I l 8) (Row.S l 9) = some (isNo (litD l).1 || isNo (litD l).2.2.2, ()) := by
 rw [z15_e]
 have h1 := number_q (n := n) (t := (litD l).1)
 have h2 := number_q (n := n) (t := (litD l).2.2.2)
 rw [show z23_v n (Row.S l 0) (Row.B l 1) (Row.I l 2) (Row.S l 3) = _ from h1]
 simp only [obind]
 rw [show z23_v n (Row.S l 6) (Row.B l 7) (Row.I l 8) (Row.S l 9) = _ from h2]
 cases isNo (litD l).1 <;> rfl
theorem place_ix {z : Row} {b : Bool} (hl : r12.length ≤ 1000) : ∀ k q : Nat, q + k = r12.length → ∀ i, k < i → z6_l2 n b (z :: r12) i ((q + 1 : Nat) : Int) = some (placeL ((r12.map litD).drop q) q + 1, ()) := by
 have hb : 4000000 ≤ big := by unfold big; omega
 intro k
 induction k with
 |zero =>
  intro q hq i hi
  obtain ⟨i, rfl⟩ : ∃ m, i = m + 1 := ⟨i - 1, by omega⟩
  rw [z6_s2, List.drop_eq_nil_of_le (by rw [List.length_map]; omega)]
  have h1 : ¬ ((q + 1 : Nat) : Int) < ((z :: r12).length : Int) := by simp only [List.length_cons]; omega
  simp only [h1, decide_false, cond_false]; rfl
 |succ k ih =>
  intro q hq i hi
  obtain ⟨i, rfl⟩ : ∃ m, i = m + 1 := ⟨i - 1, by omega⟩
  have hlt : q < r12.length := by omega
  have hlt2 : q + 1 < (z :: r12).length := by simp only [List.length_cons]; omega
  have h1 : ((q + 1 : Nat) : Int) < ((z :: r12).length : Int) := by simp only [List.length_cons]; omega
  rw [z6_s2, body_drop hlt, wrap_succ (show q + 1 < big by omega)]
  simp only [h1, natj, if_true, decide_true, cond_true, Int.toNat_natCast, getD_get hlt2, List.getElem_cons_succ]
  rw [place_1_q]
  unfold placeL
  cases h : (isNo (litD r12[q]).1 || isNo (litD r12[q]).2.2.2) with
  |true => simp only [obind, cond_true, if_true]; simp
  |false =>
   simp only [obind, cond_false]
   rw [if_neg (by simp)]
   exact ih (q + 1) (by omega) i (by omega)
theorem place_q {r : Row} (hn : 2000000 < n) (hl : (Row.R r 10).length ≤ 1000) : z39_v n (Row.S r 0) (Row.B r 1) (Row.I r 2) (Row.S r 3) (Row.S r 4) (Row.N r 5) (Row.R r 5) (Row.S r 6) (Row.B r 7) (Row.I r 8) (Row.S r 9) (Row.N r 10) (Row.R r 10) = some (placeD (ruleD r), ()) := by
 rw [z39_e]
 have h1 := number_q (n := n) (t := (ruleD r).1)
 have h2 := number_q (n := n) (t := (ruleD r).2.2.2.1)
 rw [show z23_v n (Row.S r 0) (Row.B r 1) (Row.I r 2) (Row.S r 3) = _ from h1]
 simp only [obind]
 rw [show z23_v n (Row.S r 6) (Row.B r 7) (Row.I r 8) (Row.S r 9) = _ from h2]
 unfold placeD
 cases isNo (ruleD r).1 with
 |true => rfl
 |false =>
  cases isNo (ruleD r).2.2.2.1 with
  |true => rfl
  |false =>
   simp only [cond_false]
   rw [if_pos (show (1 + (Row.R r 10).length) * 136 ≤ 140737488355328 by omega), z6_e]
   obtain ⟨m, rfl⟩ : ∃ m, n = m + 1 := ⟨n - 1, by omega⟩
   have hs : ∀ z : Row, appX [z] (Row.R r 10) = z :: Row.R r 10 := fun _ => rfl
   rw [hs, z6_s2]
   have h3 : (0 : Int) < ((([DV.val (Value.string (ByteArray.mk #[])), DV.val (Value.bool false), DV.val (Value.int IntKind.i64 0), DV.val (Value.string (ByteArray.mk #[])), DV.val (Value.string (ByteArray.mk #[])), DV.sl true [Kd.s, Kd.b, Kd.i IntKind.i64, Kd.s] [], DV.val (Value.string (ByteArray.mk #[])), DV.val (Value.bool false), DV.val (Value.int IntKind.i64 0), DV.val (Value.string (ByteArray.mk #[]))] : Row) :: Row.R r 10).length : Int) := by simp only [List.length_cons]; omega
   rw [decide_eq_true h3, if_pos (Int.le_refl 0), if_pos h3]
   have hp := place_1_q (n := m + 1) (l := [DV.val (Value.string (ByteArray.mk #[])), DV.val (Value.bool false), DV.val (Value.int IntKind.i64 0), DV.val (Value.string (ByteArray.mk #[])), DV.val (Value.string (ByteArray.mk #[])), DV.sl true [Kd.s, Kd.b, Kd.i IntKind.i64, Kd.s] [], DV.val (Value.string (ByteArray.mk #[])), DV.val (Value.bool false), DV.val (Value.int IntKind.i64 0), DV.val (Value.string (ByteArray.mk #[]))])
   have hix := place_ix (n := m + 1) (r12 := Row.R r 10) (z := [DV.val (Value.string (ByteArray.mk #[])), DV.val (Value.bool false), DV.val (Value.int IntKind.i64 0), DV.val (Value.string (ByteArray.mk #[])), DV.val (Value.string (ByteArray.mk #[])), DV.sl true [Kd.s, Kd.b, Kd.i IntKind.i64, Kd.s] [], DV.val (Value.string (ByteArray.mk #[])), DV.val (Value.bool false), DV.val (Value.int IntKind.i64 0), DV.val (Value.string (ByteArray.mk #[]))]) (b := false && List.isEmpty (Row.R r 10)) hl (Row.R r 10).length 0 (by omega) m (by omega)
   simp only [cond_true]
   erw [hp]
   have hbd := placeL_bd ((Row.R r 10).map litD) 0
   rw [List.length_map] at hbd
   have hw0 : IntKind.wrap IntKind.i64 (0 + 1) = ((0 + 1 : Nat) : Int) := wrap_succ (j := 0) (by unfold big; omega)
   rw [hw0]
   simp only [obind]
   rw [show isNo (litD [DV.val (Value.string (ByteArray.mk #[])), DV.val (Value.bool false), DV.val (Value.int IntKind.i64 0), DV.val (Value.string (ByteArray.mk #[])), DV.val (Value.string (ByteArray.mk #[])), DV.sl true [Kd.s, Kd.b, Kd.i IntKind.i64, Kd.s] [], DV.val (Value.string (ByteArray.mk #[])), DV.val (Value.bool false), DV.val (Value.int IntKind.i64 0), DV.val (Value.string (ByteArray.mk #[]))]).1 = false from rfl, show isNo (litD [DV.val (Value.string (ByteArray.mk #[])), DV.val (Value.bool false), DV.val (Value.int IntKind.i64 0), DV.val (Value.string (ByteArray.mk #[])), DV.val (Value.string (ByteArray.mk #[])), DV.sl true [Kd.s, Kd.b, Kd.i IntKind.i64, Kd.s] [], DV.val (Value.string (ByteArray.mk #[])), DV.val (Value.bool false), DV.val (Value.int IntKind.i64 0), DV.val (Value.string (ByteArray.mk #[]))]).2.2.2 = false from rfl]
   simp only [Bool.or_false, cond_false]
   rw [hix]
   simp only [List.drop_zero]
   rw [wrap_small (by omega) (by omega)]
   rw [cond_same, Int.add_sub_cancel]; rfl
theorem arity_l {sn0 : Rows} (hl : r12.length ≤ 1000) : ∀ k q : Nat, q + k = r12.length → ∀ (i : Nat) (s : Seen), k < i →
  z7_l5 n s0 b1 j2 s3 s4 b5 r6 s7 b8 j9 s10 b11 r12 sn0 i (se s) (q : Int) = some ((aritL s ((r12.map litD).drop q) q).2, (((), (se (aritL s ((r12.map litD).drop q) q).1, ())), ())) := by
 have hb : 4000000 ≤ big := by unfold big; omega
 intro k
 induction k with
 |zero =>
  intro q hq i s hi
  obtain ⟨i, rfl⟩ : ∃ m, i = m + 1 := ⟨i - 1, by omega⟩
  rw [z7_s5, List.drop_eq_nil_of_le (by rw [List.length_map]; omega)]
  have h1 : ¬ (q : Int) < (r12.length : Int) := by omega
  simp only [h1, decide_false, cond_false]; rfl
 |succ k ih =>
  intro q hq i s hi
  obtain ⟨i, rfl⟩ : ∃ m, i = m + 1 := ⟨i - 1, by omega⟩
  have hlt : q < r12.length := by omega
  have h1 : (q : Int) < (r12.length : Int) := by omega
  rw [z7_s5, body_drop hlt, wrap_succ (show q < big by omega)]
  simp only [h1, natj, if_true, decide_true, cond_true, Int.toNat_natCast, getD_get hlt]
  rw [arity_1_q]
  unfold aritL
  have he : ((litD r12[q]).2.2.1.length : Int) = ((Row.R r12[q] 5).length : Int) := by simp [litD, tms]
  rw [he, show (litD r12[q]).2.1 = Row.S r12[q] 4 from rfl]
  simp only [obind]
  rcases h : oddD s (Row.S r12[q] 4) ((Row.R r12[q] 5).length : Int) with ⟨s', bad⟩
  cases bad with
  |true => rfl
  |false => exact ih (q + 1) (by omega) i s' (by omega)
theorem arity_q {r : Row} {s : Seen} (hn : 2000000 < n) (hl : (Row.R r 10).length ≤ 1000) : z7_v n (Row.S r 0) (Row.B r 1) (Row.I r 2) (Row.S r 3) (Row.S r 4) (Row.N r 5) (Row.R r 5) (Row.S r 6) (Row.B r 7) (Row.I r 8) (Row.S r 9) (Row.N r 10) (Row.R r 10) (se s) =
  some ((aritD s (ruleD r)).2, (((), (se (aritD s (ruleD r)).1, ())), ())) := by
 rw [z7_e, arity_1_q]
 unfold aritD
 have he : ((ruleD r).2.2.1.length : Int) = ((Row.R r 5).length : Int) := by simp [ruleD, tms]
 rw [he, show (ruleD r).2.1 = Row.S r 4 from rfl]
 simp only [obind]
 rcases h : oddD s (Row.S r 4) ((Row.R r 5).length : Int) with ⟨s', bad⟩
 cases bad with
 |true => rfl
 |false =>
  have := arity_l (n := n) (s0 := Row.S r 0) (b1 := Row.B r 1) (j2 := Row.I r 2) (s3 := Row.S r 3) (s4 := Row.S r 4) (b5 := Row.N r 5) (r6 := Row.R r 5) (s7 := Row.S r 6) (b8 := Row.B r 7) (j9 := Row.I r 8) (s10 := Row.S r 9) (b11 := Row.N r 10) (r12 := Row.R r 10) (sn0 := se s) hl (Row.R r 10).length 0 (by omega) n s' (by omega)
  exact this
def freeL (home : ByteArray) (body : List LitD) : List LitD → Nat → Int
 |[], _ => -2
 |l :: t, q => if l.2.2.2.1 = noS then freeL home body t (q + 1) else if l.2.2.2.1 ∈ boundS home body q then freeL home body t (q + 1) else (q : Int)
def freeR (d : RuleD) : Int := freeL d.1.1 d.2.2.2.2 d.2.2.2.2 0
theorem free_l (hn : 2000000 < n) (hB : BodyOk r12) : ∀ k q : Nat, q + k = r12.length → ∀ i, k < i →
  z60_l2 n s0 b1 j2 s3 s4 b5 r6 s7 b8 j9 s10 b11 r12 i (q : Int) = some (freeL s0 (r12.map litD) ((r12.map litD).drop q) q, ()) := by
 have hb : 4000000 ≤ big := by unfold big; omega
 have hl := hB.len
 intro k
 induction k with
 |zero =>
  intro q hq i hi
  obtain ⟨i, rfl⟩ : ∃ m, i = m + 1 := ⟨i - 1, by omega⟩
  rw [z60_s2, List.drop_eq_nil_of_le (by rw [List.length_map]; omega)]
  have h1 : ¬ (q : Int) < (r12.length : Int) := by omega
  simp only [h1, decide_false, cond_false]; rfl
 |succ k ih =>
  intro q hq i hi
  obtain ⟨i, rfl⟩ : ∃ m, i = m + 1 := ⟨i - 1, by omega⟩
  have hlt : q < r12.length := by omega
  have h1 : (q : Int) < (r12.length : Int) := by omega
  rw [z60_s2, body_drop hlt, wrap_succ (show q < big by omega)]
  simp only [h1, natj, if_true, decide_true, cond_true, Int.toNat_natCast, getD_get hlt]
  unfold freeL
  rw [show (litD r12[q]).2.2.2.1 = Row.S r12[q] 6 from rfl]
  have ih' := ih (q + 1) (by omega) i (by omega)
  by_cases h : Row.S r12[q] 6 = noS
  ·rw [if_pos h, h]; exact ih'
  ·rw [if_neg h]
   have h' : (!Row.S r12[q] 6 == noS) = true := by simp [h]
   rw [h']
   obtain ⟨b', hb'⟩ := Bound_q (n := n) (s0 := s0) (s3 := s3) (s4 := s4) (s7 := s7) (s10 := s10) (b1 := b1) (b5 := b5) (b8 := b8) (b11 := b11) (j2 := j2) (j9 := j9) (j13 := (q : Int)) (r6 := r6) hn hB
   have hbl := bound_len (r12 := r12) (s0 := s0) (k := q) hB
   rw [hb', Int.toNat_natCast]
   simp only [cond_true, obind]
   rw [Contains_q (by omega) (by omega)]
   by_cases h2 : Row.S r12[q] 6 ∈ boundS s0 (r12.map litD) q
   ·rw [if_pos h2, decide_eq_true h2]; exact ih'
   ·rw [if_neg h2, decide_eq_false h2]; rfl
theorem free_q {r : Row} (hn : 2000000 < n) (hB : BodyOk (Row.R r 10)) : z60_v n (Row.S r 0) (Row.B r 1) (Row.I r 2) (Row.S r 3) (Row.S r 4) (Row.N r 5) (Row.R r 5) (Row.S r 6) (Row.B r 7) (Row.I r 8) (Row.S r 9) (Row.N r 10) (Row.R r 10) = some (freeR (ruleD r), ()) := by
 rw [z60_e]
 have hl := hB.len
 exact free_l hn hB (Row.R r 10).length 0 (by omega) n (by omega)
def openL (v : List ByteArray) : List Tm → Bool
 |[] => false
 |t :: l => if t.1 = noS then openL v l else if t.1 ∈ v then openL v l else true
def openD (d : RuleD) : Bool := openL (boundS d.1.1 d.2.2.2.2 d.2.2.2.2.length) (d.2.2.2.1 :: d.2.2.1)
theorem open_1_q {t : Tm} {v : List ByteArray} {b : Bool} (hv : v.length ≤ 1900000) (hn : 2000000 < n) : z32_v n t.1 t.2.1 t.2.2.1 t.2.2.2 b (sr v) = some (if t.1 = noS then false else !decide (t.1 ∈ v), (((b, sr v), ()), ())) := by
 have hb : 4000000 ≤ big := by unfold big; omega
 rw [z32_e]
 by_cases h : t.1 = noS
 ·rw [if_pos h, h]; rfl
 ·rw [if_neg h, show (!t.1 == noS) = true by simp [h], Contains_q (by omega) (by omega)]; rfl
theorem open_ix {l : Rows} {v : List ByteArray} {bb b2 : Bool} {rr : Rows} (hl : l.length ≤ 2000) (hv : v.length ≤ 1900000) (hn : 2000000 < n) : ∀ k q : Nat, q + k = l.length → ∀ i, k < i →
  ∃ z : Int, z3_l2 n bb l b2 rr i (q : Int) b2 (sr v) = some (z, (((b2, sr v), ()), ())) ∧ decide (z ≥ 0) = openL v ((tms l).drop q) := by
 have hb : 4000000 ≤ big := by unfold big; omega
 intro k
 induction k with
 |zero =>
  intro q hq i hi
  obtain ⟨i, rfl⟩ : ∃ m, i = m + 1 := ⟨i - 1, by omega⟩
  rw [z3_s2, List.drop_eq_nil_of_le (by rw [tms_len]; omega)]
  have h1 : ¬ (q : Int) < (l.length : Int) := by omega
  simp only [h1, decide_false, cond_false]
  exact ⟨-1, rfl, rfl⟩
 |succ k ih =>
  intro q hq i hi
  obtain ⟨i, rfl⟩ : ∃ m, i = m + 1 := ⟨i - 1, by omega⟩
  have hlt : q < l.length := by omega
  have h1 : (q : Int) < (l.length : Int) := by omega
  have hd : (tms l).drop q = tmAt l[q] 0 :: (tms l).drop (q + 1) := by
   rw [List.drop_eq_getElem_cons (by rw [tms_len]; exact hlt)]; simp [tms]
  rw [z3_s2, hd, wrap_succ (show q < big by omega)]
  simp only [h1, natj, if_true, decide_true, cond_true, Int.toNat_natCast, getD_get hlt]
  have ho := open_1_q (n := n) (t := tmAt l[q] 0) (v := v) (b := b2) hv hn
  rw [show z32_v n (Row.S l[q] 0) (Row.B l[q] 1) (Row.I l[q] 2) (Row.S l[q] 3) b2 (sr v) = _ from ho]
  simp only [obind]
  unfold openL
  obtain ⟨z, h2, h3⟩ := ih (q + 1) (by omega) i (by omega)
  by_cases h : (tmAt l[q] 0).1 = noS
  ·rw [if_pos h, if_pos h]; exact ⟨z, h2, h3⟩
  ·rw [if_neg h, if_neg h]
   by_cases h4 : (tmAt l[q] 0).1 ∈ v
   ·rw [if_pos h4, decide_eq_true h4]; exact ⟨z, h2, h3⟩
   ·rw [if_neg h4, decide_eq_false h4]; exact ⟨q, rfl, by simp⟩
theorem open_q {r : Row} (hn : 2000000 < n) (hB : BodyOk (Row.R r 10)) (ha : (Row.R r 5).length ≤ 1000) : z56_v n (Row.S r 0) (Row.B r 1) (Row.I r 2) (Row.S r 3) (Row.S r 4) (Row.N r 5) (Row.R r 5) (Row.S r 6) (Row.B r 7) (Row.I r 8) (Row.S r 9) (Row.N r 10) (Row.R r 10) = some (openD (ruleD r), ()) := by
 rw [z56_e]
 obtain ⟨b', h⟩ := Vars_q (n := n) (s0 := Row.S r 0) (b1 := Row.B r 1) (j2 := Row.I r 2) (s3 := Row.S r 3) (s4 := Row.S r 4) (b5 := Row.N r 5) (r6 := Row.R r 5) (s7 := Row.S r 6) (b8 := Row.B r 7) (j9 := Row.I r 8) (s10 := Row.S r 9) (b11 := Row.N r 10) (r12 := Row.R r 10) hn hB
 have hbl := bound_len (r12 := Row.R r 10) (s0 := Row.S r 0) (k := (Row.R r 10).length) hB
 rw [h]
 simp only [obind]
 rw [if_pos (by simp only [List.length_cons, List.length_nil]; omega), z9_e, z3_e]
 obtain ⟨z, h2, h3⟩ := open_ix (n := n) (l := appX [[DV.val (Value.string (Row.S r 6)), DV.val (Value.bool (Row.B r 7)), DV.val (Value.int IntKind.i64 (Row.I r 8)), DV.val (Value.string (Row.S r 9))]] (Row.R r 5)) (v := boundS (Row.S r 0) ((Row.R r 10).map litD) (Row.R r 10).length) (bb := false && List.isEmpty (Row.R r 5)) (b2 := b') (rr := sr (boundS (Row.S r 0) ((Row.R r 10).map litD) (Row.R r 10).length)) (by simp only [appX, List.length_append, List.length_cons, List.length_nil]; omega) hbl hn ((Row.R r 5).length + 1) 0 (by simp only [appX, List.length_append, List.length_cons, List.length_nil]; omega) n (by omega)
 rw [show (0 : Int) = ((0 : Nat) : Int) from rfl, h2]
 simp only [obind]
 rw [show decide (z ≥ ((0 : Nat) : Int)) = _ from h3]
 unfold openD
 rw [cond_same, show (ruleD r).2.2.2.2.length = (Row.R r 10).length by simp [ruleD]]
 rfl
end
end Go.Den
