import Derived.Test.YtkgiabbndbmmbaaZ03
import Derived.Test.YtkgiabbndbmmbaaZ09
import Derived.Test.YtkgiabbndbmmbaaZ10
import Derived.Test.YtkgiabbndbmmbaaZ11
set_option linter.unusedVariables false
set_option linter.unusedSimpArgs false
set_option linter.unusedSectionVars false
namespace Go.Den
noncomputable section
def cloneG : Spec1 := fun _ args ext k => match args, ext with
 |[.sl nl ks rows .no], [] => match nl with
  |true => k ⟨false, .sl true ks [] .no, []⟩
  |false => match Nat.beq ks.length 6 && Nat.ble rows.length 1000000 with
   |true => k ⟨false, .ms 1000 ks 0 rows.length rows.length, [[.arr ks rows]]⟩
   |false => none
 |_, _ => none
def insertG (q : Nat) : Spec1 := fun _ args ext k => match args, ext with
 |[.sl nl ks [] _, .dv (.val (.int .i64 i)), .sl _ ks2 vs _], [] =>
  match Kd.sameL ks ks2 && Nat.beq ks.length q with
  |true => match nl with
   |true => if i = 0 then if 0 < vs.length then if vs.length ≤ 1000000 then k ⟨false, .ms 1000 ks 0 vs.length vs.length, [[.arr ks vs]]⟩ else none else none else none
   |false => none
  |false => none
 |[.ms 1000 ks 0 n _, .dv (.val (.int .i64 i)), .sl _ ks2 vs _], [[.arr ks3 rows]] =>
  match Kd.sameL ks ks2 && Kd.sameL ks ks3 && Nat.beq ks.length q with
  |true => if 0 ≤ i then if i ≤ (n : Int) then if rows.length = n then if n + vs.length ≤ 1000000 then if 0 < vs.length then
    k ⟨false, .ms 1001 ks 0 (n + vs.length) (n + vs.length), [[], [.arr ks (rows.take i.toNat ++ vs ++ rows.drop i.toNat)]]⟩ else none else none else none else none else none
  |false => none
 |_, _ => none
def deleteG (q : Nat) : Spec1 := fun _ args ext k => match args, ext with
 |[.ms 1000 ks 0 n _, .dv (.val (.int .i64 i)), .dv (.val (.int .i64 j))], [[.arr ks3 rows]] =>
  match Kd.sameL ks ks3 && Nat.beq ks.length q with
  |true => if 0 ≤ i then if i < j then if j ≤ (n : Int) then if rows.length = n then
    k ⟨false, .ms 1000 ks 0 (n - (j.toNat - i.toNat)) (n - (j.toNat - i.toNat)), [[.arr ks (rows.take i.toNat ++ rows.drop j.toNat)]]⟩ else none else none else none else none
  |false => none
 |_, _ => none
def bookH (τ : Spec) : Spec := sp 53 cloneG (sp 54 (deleteG 6) (sp 52 (insertG 6) (sp 41 (insertG 4) τ)))
end
end Go.Den
namespace Go.Den
open Go.Proofs Go.Lib
theorem Inv.reset {P : Program} {w w' : World} {x : X} {E L : List Nat} {ks : List Kd} {rows rows' : Rows} (hI : Inv ⟨P, w, x, E, [], L⟩ x w (zipExt 1000 [[.arr ks rows]])) (htk : ∀ k, x.tk k = none) {b : Nat} (hloc : x.loc 1000 = some b)
  {cur cur' : Array Value} {ty : TypeId} (hb : w.heap[b]? = some (.cells cur ty (0, 0))) (hb' : w'.heap[b]? = some (.cells cur' ty (0, 0))) (hsz : cur'.size = cur.size) (ha : ArrV x.M ks rows' cur'.toList)
  (hos : w'.os = w.os) (htape : w'.tape = w.tape) (hout : w'.output = w.output) (hsize : w.heap.size ≤ w'.heap.size) (hblock : ∀ k, k < w.heap.size → k ≠ b → w'.heap[k]? = w.heap[k]?) (hdrawn : w.drawn ≤ w'.drawn) :
  Inv ⟨P, w, x, E, [], L⟩ x w' (zipExt 1000 [[.arr ks rows']]) := by
 obtain ⟨b1, ty1, arr1, h1, h2, h3, _, h5⟩ := hI.slot 1000 _ rfl
 rw [hloc] at h1; cases h1
 have hlt := (Array.getElem?_eq_some_iff.1 hb).1
 have hE : b ∈ E := by
  rcases h2 with h2 | h2
  ·exact absurd hlt (by have : w.heap.size ≤ b := h2; omega)
  ·exact h2.1
 have hne : ∀ k o u, x.M k o = some u → k ≠ b := fun k o u hu he => by subst he; rw [h5] at hu; cases hu
 have hlk : ∀ {k cs}, lookup (zipExt 1000 [[AV.arr ks rows']]) k = some cs → k = 1000 ∧ cs = [.arr ks rows'] := fun {k cs} h => by
  simp only [zipExt, lookup] at h
  split at h
  ·rename_i hb; cases h; exact ⟨(beq_eq.1 hb).symm, rfl⟩
  ·cases h
 refine ⟨fun k o u hu => ?_, fun k cs hk => ?_, fun k k' cs cs' b hk hk' _ _ => ?_, fun k u sz hk => ?_, fun k a n c sz j cs hk => ?_, fun k k' a n c sz a' n' c' sz' hk => ?_, hos, htape, hout, hsize, fun k hk hnE _ => ?_, Sub.refl _, fun b o u hu => .inl hu, fun _ _ => rfl, hI.low, ?_, hI.glob⟩
 ·rw [World.cell?_of_block (w := w) (hblock k (hI.lt hu) (hne k o u hu))]
  exact hI.sub k o u hu
 ·obtain ⟨rfl, rfl⟩ := hlk hk
  exact ⟨b, ty, cur', hloc, .inr ⟨hE, Nat.le_refl _⟩, by rw [objOf_cells (isMp_arr _ _)]; exact hb', .inr (.inl ⟨ks, rows', rfl, ha⟩), h5⟩
 ·rw [(hlk hk).1, (hlk hk').1]
 ·rw [htk] at hk; cases hk
 ·rw [htk] at hk; cases hk
 ·rw [htk] at hk; cases hk
 ·exact hblock k hk fun e => hnE (by subst e; exact hE)
 ·refine ⟨fun k b' cs hk _ hb2 => ?_, fun _ _ => rfl, hI.more.M0, fun k b' cs arr t hk hv => ?_, hdrawn⟩
  ·obtain ⟨rfl, rfl⟩ := hlk hk
   rw [hloc] at hb2; cases hb2
   obtain ⟨arr0, ty0, r1, r2⟩ := hI.more.room 1000 b _ rfl rfl hloc
   rw [hb] at r1
   cases r1
   exact ⟨cur', ty, hb', by rw [hsz]; exact r2⟩
  ·obtain ⟨rfl, rfl⟩ := hlk hk
   cases hv
theorem del54_fn : ∃ fn, Try.prog.funcs[54]? = some fn ∧ fn.body.isSome = true ∧ fn.name ≠ "runtime.NumGoroutine" := ⟨_, Try.func54, by kernel_rfl, by decide⟩
theorem del_row {α : Type} (l : List α) (p q s : Nat) (hpq : p ≤ q) (hq : q ≤ s) (hs : s ≤ l.length) (z : List α) (hz : z.length = q - p) :
  (((l.take p ++ (l.take s).drop q ++ l.drop (p + (s - q))).take (p + (s - q))) ++ z ++ (l.take p ++ (l.take s).drop q ++ l.drop (p + (s - q))).drop (s)).take (p + (s - q)) = (l.take s).take p ++ (l.take s).drop q := by
 have e1 : (l.take p ++ (l.take s).drop q ++ l.drop (p + (s - q))).take (p + (s - q)) = l.take p ++ (l.take s).drop q := by
  rw [List.take_append_of_le_length (by simp only [List.length_append, List.length_take, List.length_drop]; omega), List.take_of_length_le (by simp only [List.length_append, List.length_take, List.length_drop]; omega)]
 have e2 : (l.take s).take p = l.take p := by rw [List.take_take, Nat.min_eq_left (by omega)]
 rw [e1, e2, List.append_assoc, List.take_append_of_le_length (by simp only [List.length_append, List.length_take, List.length_drop]; omega), List.take_of_length_le (by simp only [List.length_append, List.length_take, List.length_drop]; omega)]
theorem ArrV.of_take {M : Mm} {ks : List Kd} {rows : Rows} {l : List Value} (ha : ArrV M ks rows (l.take (rows.length * ks.length))) : ArrV M ks rows l := by
 have h1 := ArrV.joined (rows2 := []) (l2 := l.drop (rows.length * ks.length)) ha rows.length (Nat.le_refl _) (.nil _)
 rw [List.take_of_length_le (Nat.le_refl _), List.append_nil, List.take_of_length_le (by rw [List.length_take]; omega), List.take_append_drop] at h1
 exact h1
theorem del54_c {ks : List Kd} (hk : ks.length = 6) (rows : Rows) (c : Nat) (i j : Int) (h0 : 0 ≤ i) (hij : i < j) (hj : j ≤ (rows.length : Int)) :
  Contract Try.prog 54 [.ms 1000 ks 0 rows.length c, .dv (.val (.int .i64 i)), .dv (.val (.int .i64 j))] [[.arr ks rows]] ⟨false, .ms 1000 ks 0 (rows.length - (j.toNat - i.toNat)) (rows.length - (j.toNat - i.toNat)), [[.arr ks (rows.take i.toNat ++ rows.drop j.toNat)]]⟩ := by
 obtain ⟨i, rfl⟩ := Int.eq_ofNat_of_zero_le h0
 obtain ⟨j, rfl⟩ := Int.eq_ofNat_of_zero_le (show 0 ≤ j by omega)
 simp only [Int.toNat_natCast]
 have hij : i < j := by omega
 have hj : j ≤ rows.length := by omega
 refine .inl ⟨del54_fn, fun w x E L vs htok hI hR => ?_⟩
 obtain ⟨hL, htk⟩ := htok rfl
 cases hR with | cons _ v1 _ vs1 h1 h2 =>
 cases h2 with | cons _ v2 _ vs2 h3 h4 =>
 cases h4 with | cons _ v3 _ vs3 h5 h6 =>
 cases h6
 obtain rfl := Rep.val h3
 obtain rfl := Rep.val h5
 cases h1 with | ms _ _ _ _ _ b o c' hloc hnc ho hcap =>
 have ho : o = 0 := by have := ho (by omega); simpa using this
 subst ho
 obtain ⟨b1, ty, arr, p1, p2, p3, p4, p5⟩ := hI.slot 1000 [.arr ks rows] rfl
 rw [hloc] at p1
 cases p1
 rw [objOf_cells (isMp_arr _ _)] at p3
 obtain ⟨arr1, ty1, q1, q2⟩ := hI.more.room 1000 b _ rfl rfl hloc
 rw [p3] at q1
 cases q1
 have hcap' := hcap
 rw [hk] at hcap
 have hsz : c' * 6 ≤ arr.size := by omega
 have harr := p4.arr
 have eal := Array.length_toList (xs := arr)
 have hcl : (arr.toList.take (rows.length * 6)).length = rows.length * 6 := by rw [List.length_take]; omega
 have hcell : ∀ j, w.cell? ⟨b, j, none⟩ = arr[j]? := fun j => by simp [World.cell?, p3]
 have hcs : ∀ j v, (arr.toList.take (rows.length * 6))[j]? = some v → w.cell? ⟨b, j, none⟩ = some v := fun j v hj => by
  rw [List.getElem?_take] at hj
  split at hj
  ·rw [hcell, ← Array.getElem?_toList]; exact hj
  ·cases hj
 have hfz : ∀ o s, w.frozen? ⟨b, o, s⟩ = false := fun o s => by simp [World.frozen?, p3]
 obtain ⟨hrt, h1c⟩ := harr.exact
 rw [hk] at hrt h1c
 have hc63 : c' ≤ 9223372036854775807 := by have := hcap.2.2; unfold maxLen at this; omega
 refine (del54_raw b rows.length c' i j (arr.toList.take (rows.length * 6)) w hij hj (by omega) hc63 hcl hcs hfz h1c).mono ?_
 rintro en w' ⟨rfl, rfl⟩
 have hdl : ((arr.toList.take (rows.length * 6)).drop (j * 6)).length = (rows.length - j) * 6 := by rw [List.length_drop, hcl]; omega
 have hzl : ∀ q, (Builtin.zeroCells zDeriv.cells q).toList.length = q * 6 := fun q => by rw [Array.length_toList, size_zeroCells]; rfl
 have r1 := setCells_row w.drew b (i * 6) arr ty ((arr.toList.take (rows.length * 6)).drop (j * 6)) p3 (by rw [hdl]; omega) (fun v hv => h1c v (List.mem_of_mem_drop hv))
 have r2 := setCells_row (w.drew.setCells b (i * 6) ((arr.toList.take (rows.length * 6)).drop (j * 6))) b ((i + (rows.length - j)) * 6) _ ty (Builtin.zeroCells zDeriv.cells (rows.length - (i + (rows.length - j)))).toList r1 (by rw [hzl]; simp only [List.size_toArray, List.length_append, hdl, List.length_take, List.length_drop]; omega) (zD_one _)
 have s1 := setCells_rest b (Builtin.zeroCells zDeriv.cells (rows.length - (i + (rows.length - j)))).toList ((i + (rows.length - j)) * 6) (w.drew.setCells b (i * 6) ((arr.toList.take (rows.length * 6)).drop (j * 6)))
 have s2 := setCells_rest b ((arr.toList.take (rows.length * 6)).drop (j * 6)) (i * 6) w.drew
 have hn' : rows.length - (j - i) = i + (rows.length - j) := by omega
 have hlenN : (rows.take i ++ rows.drop j).length = i + (rows.length - j) := by simp only [List.length_append, List.length_take, List.length_drop]; omega
 have harrN : ArrV x.M ks (rows.take i ++ rows.drop j) ((arr.toList.take (rows.length * 6)).take (i * 6) ++ (arr.toList.take (rows.length * 6)).drop (j * 6)) := by
  have h1 := ArrV.dropped hrt j hj
  have h3 := ArrV.joined hrt i (by omega) h1
  rw [hk] at h3
  exact h3
 refine ⟨x, _, rfl, rfl, ?_, ?_⟩
 ·refine hI.reset htk hloc p3 r2 ?_ ?_ (s1.1.trans s2.1) (s1.2.1.trans s2.2.1) (s1.2.2.1.trans s2.2.2.1) (by rw [setCells_size, setCells_size]; exact Nat.le_refl _) (fun k _ hk' => ?_) (by rw [s1.2.2.2, s2.2.2.2]; exact Nat.le_succ _)
  ·simp only [hzl, List.size_toArray, List.length_append, hdl, List.length_take, List.length_drop]; omega
  ·refine ArrV.of_take ?_
   have h2 := del_row arr.toList (i * 6) (j * 6) (rows.length * 6) (by omega) (by omega) (by omega) (Builtin.zeroCells zDeriv.cells (rows.length - (i + (rows.length - j)))).toList (by rw [hzl]; omega)
   have e1 : (i + (rows.length - j)) * 6 = i * 6 + (rows.length * 6 - j * 6) := by omega
   have e2 : i * 6 + ((arr.toList.take (rows.length * 6)).drop (j * 6)).length = i * 6 + (rows.length * 6 - j * 6) := by rw [hdl]; omega
   have e3 : i * 6 + (rows.length * 6 - j * 6) + (Builtin.zeroCells zDeriv.cells (rows.length - (i + (rows.length - j)))).toList.length = rows.length * 6 := by rw [hzl]; omega
   rw [hlenN, hk, e2, e1, e3]
   show ArrV x.M ks _ (List.take _ (_ ++ _ ++ _))
   simp only
   rw [h2]
   exact harrN
  ·rw [setCells_other b 0 _ _ _ k hk', setCells_other b 0 _ _ _ k hk']; rfl
 ·rw [hn']
  exact .ms 1000 ks 0 _ _ b 0 c' hloc (Nat.le_refl _) (fun _ => by simp) ⟨by omega, hcap'.2⟩
theorem deleteG54_ok : Spec1Ok Try.prog 54 (deleteG 6) := by
 intro R args ext k res h
 unfold deleteG at h
 split at h
 ·rename_i ks n c i j ks3 rows
  split at h
  ·rename_i hc
   split at h
   ·rename_i h0
    split at h
    ·rename_i hi
     split at h
     ·rename_i hj
      split at h
      ·rename_i hn
       simp only [Bool.and_eq_true] at hc
       have hks3 := Kd.sameL_eq hc.1
       subst hks3; subst hn
       refine ⟨_, del54_c (beq_eq.1 hc.2) rows c i j h0 hi hj, h, fun R' k' => ?_⟩
       unfold deleteG
       simp only [hc.1, hc.2, h0, hi, hj, Bool.and_self, if_true]
      ·cases h
     ·cases h
    ·cases h
   ·cases h
  ·cases h
 ·cases h
end Go.Den
namespace Go.Den
open Go.Proofs Go.Lib
theorem ArrV.whole {M : Mm} {b o : Nat} {ks : List Kd} {rows : Rows} (h : RowsAt M b o ks rows) {vs : List Value} (hv : ∀ q v, vs[q]? = some v → M b (o + q) = some v) (hl : vs.length = rows.length * ks.length) : ArrV M ks rows vs := by
 have := RowsAt.arr h hv hl (.nil [])
 simpa using this
theorem clo53_fn : ∃ fn, Try.prog.funcs[53]? = some fn ∧ fn.body.isSome = true ∧ fn.name ≠ "runtime.NumGoroutine" := ⟨_, Try.func53, by kernel_rfl, by decide⟩
theorem clo53_c {ks : List Kd} (hk : ks.length = 6) (nl : Bool) (rows : Rows) (hnl : nl = false) (hb : rows.length ≤ 1000000) :
  Contract Try.prog 53 [.sl nl ks rows .no] [] ⟨false, .ms 1000 ks 0 rows.length rows.length, [[.arr ks rows]]⟩ := by
 refine made_contract clo53_fn _ rfl fun w x E vs htk hI hR => ?_
 cases hR with | cons _ v1 _ vs1 h1 h2 =>
 cases h2
 cases h1 with | sl _ _ _ _ _ hd _ =>
 rcases hd.rows with ⟨he, _, _⟩ | ⟨a, vc, _, rfl, hvc, hsp, hra⟩
 ·rw [he] at hnl; cases hnl
 by_cases hn : 0 < rows.length
 rotate_left
 ·have hr0 : rows = [] := List.eq_nil_of_length_eq_zero (by omega)
  subst hr0
  refine (clo53_none a vc w).mono ?_
  rintro en w' ⟨rfl, rfl⟩
  refine ⟨_, [], rfl, ⟨⟨w.heap.size, 0, #[], 42, rfl, .inl (Nat.le_refl _), heap_new w _, Nat.le_refl _, Nat.zero_le _, by simp, by simp⟩, rfl, rfl, rfl, ?_, fun b' hb' _ => heap_old w _ b' hb', Nat.le_refl _⟩, .nil _⟩
  show w.heap.size ≤ (w.heap.push _).size; simp
 have hne : rows ≠ [] := by intro he; rw [he] at hn; cases hn
 obtain ⟨vb, voff, sp⟩ := a
 have hs := hsp hne
 simp only at hs
 subst hs
 obtain ⟨vals, g1, g2, g3, g4⟩ := cells_of_rows hI (a := ⟨vb, voff, none⟩) (fun _ => rfl) hra
 have hvs : ∀ j v, vals[j]? = some v → w.cell? ⟨vb, voff + j, none⟩ = some v := fun j v hj => by have := g4 j v hj; rwa [Addr.add_lit] at this
 have hraw := clo53_raw vb voff rows.length vc vals w hn (by omega) (by rw [g1, hk]) hvs g3
 have hg1 : rows.length ≤ grownCap (w.alloc (.cells #[] 42)) rows.length 0 42 := grownCap_ge _ _ _ _
 have hg2 := grownCap_le_maxLen (w.alloc (.cells #[] 42)) rows.length 0 42 (by unfold maxLen; omega)
 have ez : ∀ q, (Builtin.zeroCells zDeriv.cells q).size = q * 6 := fun q => by rw [size_zeroCells]; rfl
 generalize hG : grownCap (w.alloc (.cells #[] 42)) rows.length 0 42 = G at hg1 hg2 hraw
 refine hraw.mono ?_
 rintro en w' ⟨rfl, rfl⟩
 have e1 : (w.alloc (.cells #[] 42)).heap.size = w.heap.size + 1 := by show (w.heap.push _).size = _; simp
 have r0 : ((w.alloc (.cells #[] 42)).drew.alloc (.cells (vals.toArray ++ Builtin.zeroCells zDeriv.cells (G - rows.length)) 42)).heap[w.heap.size + 1]? = some (.cells (vals.toArray ++ Builtin.zeroCells zDeriv.cells (G - rows.length)) 42 (0, 0)) := by
  have := heap_new (w.alloc (.cells #[] 42)).drew (.cells (vals.toArray ++ Builtin.zeroCells zDeriv.cells (G - rows.length)) 42)
  have e2 : (w.alloc (.cells #[] 42)).drew.heap.size = w.heap.size + 1 := e1
  rw [e2] at this
  exact this
 refine ⟨_, vals, rfl, ⟨⟨w.heap.size + 1, G, _, 42, rfl, .inl (Nat.le_succ _), r0, hg1, hg2, ?_, ?_⟩, rfl, rfl, rfl, ?_, fun b' hb' _ => ?_, ?_⟩, ArrV.whole hra g2 g1⟩
 ·rw [Array.size_append, ez, List.size_toArray, g1, hk]; omega
 ·rw [Array.toList_append, List.toList_toArray, List.take_append_of_le_length (by rw [g1]; omega), List.take_of_length_le (by rw [g1]; omega)]
 ·show w.heap.size ≤ ((w.heap.push _).push _).size; simp; omega
 ·rw [heap_old (w.alloc (.cells #[] 42)).drew _ b' (by show b' < (w.heap.push _).size; simp; omega)]
  exact heap_old w _ b' hb'
 ·exact Nat.le_succ _
theorem clo53_e (ks : List Kd) (rows : Rows) : Contract Try.prog 53 [.sl true ks rows .no] [] ⟨false, .sl true ks [] .no, []⟩ := by
 refine .inl ⟨clo53_fn, fun w x E L vs htok hI hR => ?_⟩
 cases hR with | cons _ v1 _ vs1 h1 h2 =>
 cases h2
 cases h1 with | sl _ _ _ _ _ hd _ =>
 rcases hd.rows with ⟨_, _, rfl⟩ | ⟨a, vc, he, _⟩
 ·refine (clo53_nil 0 w).mono ?_
  rintro en w' ⟨rfl, rfl⟩
  exact ⟨x, _, rfl, rfl, hI, .sl _ _ _ _ _ (.nil ks) trivial⟩
 ·cases he
theorem Rep.nilSl {x : X} {ks : List Kd} {r : Right} {v : Value} (h : Rep x (.sl true ks [] r) v) : v = .slice none 0 0 := by
 cases h with | sl _ _ _ _ _ hd hr' =>
 rcases hd.rows with ⟨_, _, rfl⟩ | ⟨a, c, he, _⟩
 ·rfl
 ·cases he
theorem ins52_nil {ks : List Kd} (hk : ks.length = 6) (r : Right) (vrows : Rows) (nl2 : Bool) (r2 : Right) (hm : 0 < vrows.length) (hb : vrows.length ≤ 1000000) :
  Contract Try.prog 52 [.sl true ks [] r, .dv (.val (.int .i64 0)), .sl nl2 ks vrows r2] [] ⟨false, .ms 1000 ks 0 vrows.length vrows.length, [[.arr ks vrows]]⟩ := by
 refine made_contract ins52_fn _ rfl fun w x E vs htk hI hR => ?_
 cases hR with | cons _ v1 _ vs1 h1 h2 =>
 cases h2 with | cons _ v2 _ vs2 h3 h4 =>
 cases h4 with | cons _ v3 _ vs3 h5 h6 =>
 cases h6
 obtain rfl := Rep.val h3
 obtain rfl := h1.nilSl
 cases h5 with | sl _ _ _ _ _ hd _ =>
 rcases hd.rows with ⟨_, he, _⟩ | ⟨a, vc, _, rfl, hvc, hsp, hra⟩
 ·rw [he] at hm; cases hm
 have hne : vrows ≠ [] := by intro he; rw [he] at hm; cases hm
 obtain ⟨vb, voff, sp⟩ := a
 have hs := hsp hne
 simp only at hs
 subst hs
 obtain ⟨vals, g1, g2, g3, g4⟩ := cells_of_rows hI (a := ⟨vb, voff, none⟩) (fun _ => rfl) hra
 have hvs : ∀ j v, vals[j]? = some v → w.cell? ⟨vb, voff + j, none⟩ = some v := fun j v hj => by have := g4 j v hj; rwa [Addr.add_lit] at this
 have hraw := ins52_end_grow none 0 0 vb voff vrows.length vc [] vals w hm (Nat.le_refl _) (by omega) (by omega) (by simp) (by rw [g1, hk]) (fun _ => rfl) (fun a _ j v hj => by simp at hj) hvs g3
 rw [Nat.zero_add, List.nil_append] at hraw
 have hg1 : vrows.length ≤ grownCap w vrows.length 0 42 := grownCap_ge _ _ _ _
 have hg2 := grownCap_le_maxLen w vrows.length 0 42 (by unfold maxLen; omega)
 have ez : ∀ q, (Builtin.zeroCells (Value.agg #[Value.int IntKind.i64 0, Value.string ⟨#[]⟩, Value.string ⟨#[]⟩, Value.string ⟨#[]⟩, Value.slice none 0 0, Value.slice none 0 0]).cells q).size = q * 6 := fun q => by rw [size_zeroCells]; rfl
 generalize hG : grownCap w vrows.length 0 42 = G at hg1 hg2 hraw
 refine hraw.mono ?_
 rintro en w' ⟨rfl, rfl⟩
 refine ⟨_, vals, rfl, ⟨⟨w.heap.size, G, _, 42, rfl, .inl (Nat.le_refl _), heap_new w.drew _, hg1, hg2, ?_, ?_⟩, rfl, rfl, rfl, ?_, fun b' hb' _ => heap_old w.drew _ b' hb', Nat.le_succ _⟩, ArrV.whole hra g2 g1⟩
 ·rw [Array.size_append, ez, List.size_toArray, g1, hk]; omega
 ·rw [Array.toList_append, List.toList_toArray, List.take_append_of_le_length (by rw [g1]; omega), List.take_of_length_le (by rw [g1]; omega)]
 ·show _ ≤ (w.heap.push _).size; simp
theorem insertG52_ok : Spec1Ok Try.prog 52 (insertG 6) := by
 intro R args ext k res h
 unfold insertG at h
 split at h
 ·rename_i nl ks r i nl2 ks2 vs r2
  split at h
  ·rename_i hc
   split at h
   ·split at h
    ·rename_i hi
     split at h
     ·rename_i hm
      split at h
      ·rename_i hb
       subst hi
       simp only [Bool.and_eq_true] at hc
       have hks := Kd.sameL_eq hc.1
       subst hks
       refine ⟨_, ins52_nil (beq_eq.1 hc.2) r vs nl2 r2 hm hb, h, fun R' k' => ?_⟩
       unfold insertG
       simp only [hc.1, hc.2, hm, hb, Bool.and_self, if_true]
      ·cases h
     ·cases h
    ·cases h
   ·cases h
  ·cases h
 ·rename_i ks n c i nl2 ks2 vs r2 ks3 rows
  split at h
  ·rename_i hc
   split at h
   ·rename_i h0
    split at h
    ·rename_i hi
     split at h
     ·rename_i hn
      split at h
      ·rename_i hb
       split at h
       ·rename_i hm
        simp only [Bool.and_eq_true] at hc
        have hks := Kd.sameL_eq hc.1.1
        have hks3 := Kd.sameL_eq hc.1.2
        subst hks; subst hks3; subst hn
        refine ⟨_, ins52_ms (beq_eq.1 hc.2) rows vs nl2 r2 c i h0 hi hm hb, h, fun R' k' => ?_⟩
        unfold insertG
        simp only [hc.1.1, hc.1.2, hc.2, h0, hi, hm, hb, Bool.and_self, if_true]
       ·cases h
      ·cases h
     ·cases h
    ·cases h
   ·cases h
  ·cases h
 ·cases h
theorem ins41_nil {ks : List Kd} (hk : ks.length = 4) (r : Right) (vrows : Rows) (nl2 : Bool) (r2 : Right) (hm : 0 < vrows.length) (hb : vrows.length ≤ 1000000) :
  Contract Try.prog 41 [.sl true ks [] r, .dv (.val (.int .i64 0)), .sl nl2 ks vrows r2] [] ⟨false, .ms 1000 ks 0 vrows.length vrows.length, [[.arr ks vrows]]⟩ := by
 refine made_contract ins41_fn _ rfl fun w x E vs htk hI hR => ?_
 cases hR with | cons _ v1 _ vs1 h1 h2 =>
 cases h2 with | cons _ v2 _ vs2 h3 h4 =>
 cases h4 with | cons _ v3 _ vs3 h5 h6 =>
 cases h6
 obtain rfl := Rep.val h3
 obtain rfl := h1.nilSl
 cases h5 with | sl _ _ _ _ _ hd _ =>
 rcases hd.rows with ⟨_, he, _⟩ | ⟨a, vc, _, rfl, hvc, hsp, hra⟩
 ·rw [he] at hm; cases hm
 have hne : vrows ≠ [] := by intro he; rw [he] at hm; cases hm
 obtain ⟨vb, voff, sp⟩ := a
 have hs := hsp hne
 simp only at hs
 subst hs
 obtain ⟨vals, g1, g2, g3, g4⟩ := cells_of_rows hI (a := ⟨vb, voff, none⟩) (fun _ => rfl) hra
 have hvs : ∀ j v, vals[j]? = some v → w.cell? ⟨vb, voff + j, none⟩ = some v := fun j v hj => by have := g4 j v hj; rwa [Addr.add_lit] at this
 have hraw := ins41_end_grow none 0 0 vb voff vrows.length vc [] vals w hm (Nat.le_refl _) (by omega) (by omega) (by simp) (by rw [g1, hk]) (fun _ => rfl) (fun a _ j v hj => by simp at hj) hvs g3
 rw [Nat.zero_add, List.nil_append] at hraw
 have hg1 : vrows.length ≤ grownCap w vrows.length 0 38 := grownCap_ge _ _ _ _
 have hg2 := grownCap_le_maxLen w vrows.length 0 38 (by unfold maxLen; omega)
 have ez : ∀ q, (Builtin.zeroCells (Value.agg #[Value.string ⟨#[]⟩, Value.string ⟨#[]⟩, Value.string ⟨#[]⟩, Value.slice none 0 0]).cells q).size = q * 4 := fun q => by rw [size_zeroCells]; rfl
 generalize hG : grownCap w vrows.length 0 38 = G at hg1 hg2 hraw
 refine hraw.mono ?_
 rintro en w' ⟨rfl, rfl⟩
 refine ⟨_, vals, rfl, ⟨⟨w.heap.size, G, _, 38, rfl, .inl (Nat.le_refl _), heap_new w.drew _, hg1, hg2, ?_, ?_⟩, rfl, rfl, rfl, ?_, fun b' hb' _ => heap_old w.drew _ b' hb', Nat.le_succ _⟩, ArrV.whole hra g2 g1⟩
 ·rw [Array.size_append, ez, List.size_toArray, g1, hk]; omega
 ·rw [Array.toList_append, List.toList_toArray, List.take_append_of_le_length (by rw [g1]; omega), List.take_of_length_le (by rw [g1]; omega)]
 ·show _ ≤ (w.heap.push _).size; simp
theorem insertG41_ok : Spec1Ok Try.prog 41 (insertG 4) := by
 intro R args ext k res h
 unfold insertG at h
 split at h
 ·rename_i nl ks r i nl2 ks2 vs r2
  split at h
  ·rename_i hc
   split at h
   ·split at h
    ·rename_i hi
     split at h
     ·rename_i hm
      split at h
      ·rename_i hb
       subst hi
       simp only [Bool.and_eq_true] at hc
       have hks := Kd.sameL_eq hc.1
       subst hks
       refine ⟨_, ins41_nil (beq_eq.1 hc.2) r vs nl2 r2 hm hb, h, fun R' k' => ?_⟩
       unfold insertG
       simp only [hc.1, hc.2, hm, hb, Bool.and_self, if_true]
      ·cases h
     ·cases h
    ·cases h
   ·cases h
  ·cases h
 ·rename_i ks n c i nl2 ks2 vs r2 ks3 rows
  split at h
  ·rename_i hc
   split at h
   ·rename_i h0
    split at h
    ·rename_i hi
     split at h
     ·rename_i hn
      split at h
      ·rename_i hb
       split at h
       ·rename_i hm
        simp only [Bool.and_eq_true] at hc
        have hks := Kd.sameL_eq hc.1.1
        have hks3 := Kd.sameL_eq hc.1.2
        subst hks; subst hks3; subst hn
        refine ⟨_, ins41_ms (beq_eq.1 hc.2) rows vs nl2 r2 c i h0 hi hm hb, h, fun R' k' => ?_⟩
        unfold insertG
        simp only [hc.1.1, hc.1.2, hc.2, h0, hi, hm, hb, Bool.and_self, if_true]
       ·cases h
      ·cases h
     ·cases h
    ·cases h
   ·cases h
  ·cases h
 ·cases h
theorem cloneG_ok : Spec1Ok Try.prog 53 cloneG := by
 intro R args ext k res h
 unfold cloneG at h
 split at h
 ·rename_i nl ks rows
  split at h
  ·exact ⟨_, clo53_e ks rows, h, fun R' k' => by unfold cloneG; simp⟩
  ·split at h
   ·rename_i hc
    simp only [Bool.and_eq_true, Nat.ble_eq] at hc
    refine ⟨_, clo53_c (beq_eq.1 hc.1) false rows rfl hc.2, h, fun R' k' => ?_⟩
    unfold cloneG
    have hc2 : Nat.ble rows.length 1000000 = true := by rw [Nat.ble_eq]; exact hc.2
    simp only [hc.1, hc2, Bool.and_self]
   ·cases h
 ·cases h
theorem bookH_ok {τ : Spec} (h : SpecOk Try.prog τ) : SpecOk Try.prog (bookH τ) := sp_ok cloneG_ok (sp_ok deleteG54_ok (sp_ok insertG52_ok (sp_ok insertG41_ok h)))
end Go.Den
