import Derived.Test.YtkgiabbndbmmbaaZ06
import Derived.Test.YtkgiabbndbmmbaaZ08
set_option linter.unusedVariables false
set_option linter.unusedSimpArgs false
set_option linter.unusedSectionVars false
namespace Go.Den
open Go.Proofs Go.Lib
theorem ins41_fn : ∃ fn, Try.prog.funcs[41]? = some fn ∧ fn.body.isSome = true ∧ fn.name ≠ "runtime.NumGoroutine" := ⟨_, Try.func41, by kernel_rfl, by decide⟩
theorem ins41_ms {ks : List Kd} (hk : ks.length = 4) (rows vrows : Rows) (nl2 : Bool) (r2 : Right) (c : Nat) (i : Int) (h0 : 0 ≤ i) (hi : i ≤ (rows.length : Int)) (hm : 0 < vrows.length) (hb : rows.length + vrows.length ≤ 1000000) :
  Contract Try.prog 41 [.ms 1000 ks 0 rows.length c, .dv (.val (.int .i64 i)), .sl nl2 ks vrows r2] [[.arr ks rows]] ⟨false, .ms 1001 ks 0 (rows.length + vrows.length) (rows.length + vrows.length), [[], [.arr ks (rows.take i.toNat ++ vrows ++ rows.drop i.toNat)]]⟩ := by
 obtain ⟨i, rfl⟩ := Int.eq_ofNat_of_zero_le h0
 simp only [Int.toNat_natCast]
 have hi : i ≤ rows.length := by omega
 refine grown_contract ins41_fn _ (by simp only [List.length_append, List.length_take, List.length_drop]; omega) fun w x E vs htk hI hR => ?_
 cases hR with | cons _ v1 _ vs1 h1 h2 =>
 cases h2 with | cons _ v2 _ vs2 h3 h4 =>
 cases h4 with | cons _ v3 _ vs3 h5 h6 =>
 cases h6
 obtain rfl := Rep.val h3
 cases h5 with | sl _ _ _ _ _ hd _ =>
 rcases hd.rows with ⟨_, he, _⟩ | ⟨a, vc, _, rfl, hvc, hsp, hra⟩
 ·rw [he] at hm; cases hm
 have hne : vrows ≠ [] := by intro he; rw [he] at hm; cases hm
 obtain ⟨vb, voff, sp⟩ := a
 have hs := hsp hne
 simp only at hs
 subst hs
 obtain ⟨vals, g1, g2, g3, g4⟩ := cells_of_rows hI (a := ⟨vb, voff, none⟩) (fun _ => rfl) hra
 rw [hk] at g1
 have hvs : ∀ j v, vals[j]? = some v → w.cell? ⟨vb, voff + j, none⟩ = some v := fun j v hj => by have := g4 j v hj; rwa [Addr.add_lit] at this
 cases h1 with | ms _ _ _ _ _ b o c' hloc hnc ho hcap =>
 have hgz : ¬ 0 < c' → ∃ w0 : Unit, rows.length = 0 ∧ i = 0 := fun h => ⟨(), by omega, by omega⟩
 by_cases hc0 : 0 < c'
 rotate_left
 ·obtain ⟨_, hr0, hi0⟩ := hgz hc0
  have hr0' : rows = [] := List.eq_nil_of_length_eq_zero hr0
  subst hi0
  subst hr0'
  have hc0' : c' = 0 := by omega
  subst hc0'
  have hgr := ins41_end_grow (some ⟨b, o, none⟩) 0 0 vb voff vrows.length vc [] vals w hm (Nat.le_refl _) (by omega) (by omega) (by simp) g1 (fun h => by cases h) (fun a ha j v hj => by simp at hj) hvs g3
  rw [Nat.zero_add, List.nil_append] at hgr
  have hg1 : vrows.length ≤ grownCap w vrows.length 0 38 := grownCap_ge w _ _ _
  have hg2 := grownCap_le_maxLen w vrows.length 0 38 (by unfold maxLen; omega)
  have ez : ∀ q, (Builtin.zeroCells (Value.agg #[Value.string ⟨#[]⟩, Value.string ⟨#[]⟩, Value.string ⟨#[]⟩, Value.slice none 0 0]).cells q).size = q * 4 := fun q => by rw [size_zeroCells]; rfl
  generalize hG : grownCap w vrows.length 0 38 = G at hg1 hg2 hgr
  refine hgr.mono ?_
  rintro en w' ⟨rfl, rfl⟩
  have hwh : ArrV x.M ks vrows vals := by have := RowsAt.arr hra (vs := vals) g2 (by rw [g1, hk]) (.nil []); simpa using this
  simp only [List.take_nil, List.nil_append, List.drop_nil, List.append_nil]
  refine ⟨_, vals, none, rfl, .inl rfl, ⟨⟨w.heap.size, G, _, 38, rfl, .inl (Nat.le_refl _), heap_new w.drew _, hg1, hg2, ?_, ?_⟩, rfl, rfl, rfl, ?_, fun b' hb' _ => heap_old w.drew _ b' hb', Nat.le_succ _⟩, hwh⟩
  ·rw [Array.size_append, ez, List.size_toArray, g1, hk]; omega
  ·rw [Array.toList_append, List.toList_toArray, List.take_append_of_le_length (by rw [g1, hk]; omega), List.take_of_length_le (by rw [g1, hk]; omega)]
  ·show _ ≤ (w.heap.push _).size; simp
 have ho : o = 0 := by have := ho hc0; simpa using this
 subst ho
 obtain ⟨b1, ty, arr, p1, p2, p3, p4, p5⟩ := hI.slot 1000 [.arr ks rows] rfl
 rw [hloc] at p1
 cases p1
 rw [objOf_cells (isMp_arr _ _)] at p3
 obtain ⟨arr1, ty1, q1, q2⟩ := hI.more.room 1000 b _ rfl rfl hloc
 rw [p3] at q1
 cases q1
 rw [hk] at hcap
 have hsz : c' * 4 ≤ arr.size := by omega
 have harr := p4.arr
 have hvb : vb ≠ b := fun he => by
  have h0 : vals.length ≠ 0 := by omega
  have h1 := g2 0 _ (List.getElem?_eq_getElem (by omega))
  simp only at h1
  rw [he, p5] at h1; cases h1
 have hcl : (arr.toList.take (rows.length * 4)).length = rows.length * 4 := by have e := Array.length_toList (xs := arr); rw [List.length_take]; omega
 have hcell : ∀ j, w.cell? ⟨b, j, none⟩ = arr[j]? := fun j => by simp [World.cell?, p3]
 have hcs : ∀ j v, (arr.toList.take (rows.length * 4))[j]? = some v → w.cell? ⟨b, j, none⟩ = some v := fun j v hj => by
  rw [List.getElem?_take] at hj
  split at hj
  ·rw [hcell, ← Array.getElem?_toList]; exact hj
  ·cases hj
 have hspc : ∀ j, j < c' * 4 → (w.cell? ⟨b, j, none⟩).isSome = true := fun j hj => by rw [hcell, Array.getElem?_eq_getElem (by omega)]; rfl
 have hfz : ∀ o s, w.frozen? ⟨b, o, s⟩ = false := fun o s => by simp [World.frozen?, p3]
 obtain ⟨hrt, h1c⟩ := harr.exact
 rw [hk] at hrt h1c
 have hlt := (Array.getElem?_eq_some_iff.1 p3).1
 have eal := Array.length_toList (xs := arr)
 have hsb : w.shape? b = some (ty, arr.size) := by simp [World.shape?, p3]
 obtain ⟨tA, kA, hsa, hkA⟩ : ∃ tA kA, w.shape? vb = some (tA, kA) ∧ kA ≠ 0 := by
  have h1 := hvs 0 _ (List.getElem?_eq_getElem (by omega))
  unfold World.cell? at h1
  split at h1
  ·rename_i cc ee ff hh
   refine ⟨ee, cc.size, by unfold World.shape?; simp only at hh; rw [hh], fun h0 => ?_⟩
   simp at h1
   obtain ⟨h2, _⟩ := Array.getElem?_eq_some_iff.1 h1
   omega
  ·cases h1
 have hvw : vb < w.heap.size := block_lt_of_cell (hvs 0 _ (List.getElem?_eq_getElem (by omega)))
 have harrN : ArrV x.M ks (rows.take i ++ vrows ++ rows.drop i) ((arr.toList.take (rows.length * 4)).take (i * 4) ++ vals ++ (arr.toList.take (rows.length * 4)).drop (i * 4)) := by
  have h1 := ArrV.dropped hrt i hi
  have h2 := RowsAt.arr hra (vs := vals) g2 (by rw [g1, hk]) h1
  have h3 := ArrV.joined hrt i hi h2
  rw [hk] at h3
  rw [List.append_assoc, List.append_assoc]
  exact h3
 have hlenN : (rows.take i ++ vrows ++ rows.drop i).length = rows.length + vrows.length := by simp only [List.length_append, List.length_take, List.length_drop]; omega
 rw [hlenN, hk]
 have hc63 : c' ≤ 9223372036854775807 := by have := hcap.2.2; unfold maxLen at this; omega
 have hin : ((rows.length + vrows.length) * 4) = i * 4 + vrows.length * 4 + (rows.length - i) * 4 := by omega
 have hrl : rows.length * 4 = i * 4 + (rows.length - i) * 4 := by omega
 have him : (i + vrows.length) * 4 = i * 4 + vrows.length * 4 := by omega
 by_cases hroom : rows.length + vrows.length ≤ c'
 ·rcases Nat.lt_or_ge i rows.length with hii | hii
  ·refine (ins41_shift b rows.length c' i vb voff vrows.length vc _ vals w hii hm hroom hc63 hvb hcl g1 hcs (fun j hj => hspc j (by omega)) hfz hvs h1c g3 tA ty kA arr.size hsa hkA hsb (by omega)).mono ?_
   rintro en w' ⟨rfl, rfl⟩
   have hdl : ((arr.toList.take (rows.length * 4)).drop (i * 4)).length = (rows.length - i) * 4 := by rw [List.length_drop, hcl]; omega
   have r1 := setCells_row w.drew b ((i + vrows.length) * 4) arr ty ((arr.toList.take (rows.length * 4)).drop (i * 4)) p3 (by rw [hdl]; omega) (fun v hv => h1c v (List.mem_of_mem_drop hv))
   have r2 := setCells_row (w.drew.setCells b ((i + vrows.length) * 4) ((arr.toList.take (rows.length * 4)).drop (i * 4))) b (i * 4) _ ty vals r1 (by simp only [List.size_toArray, List.length_append, List.length_take, List.length_drop]; omega) g3
   have s1 := setCells_rest b vals (i * 4) (w.drew.setCells b ((i + vrows.length) * 4) ((arr.toList.take (rows.length * 4)).drop (i * 4)))
   have s2 := setCells_rest b ((arr.toList.take (rows.length * 4)).drop (i * 4)) ((i + vrows.length) * 4) w.drew
   refine ⟨_, _, some b, rfl, .inr hloc.symm, ⟨⟨b, c', _, ty, rfl, .inr rfl, r2, hroom, hcap.2.2, ?_, ?_⟩, s1.1.trans s2.1, s1.2.1.trans s2.2.1, s1.2.2.1.trans s2.2.2.1, ?_, fun b' _ hb' => ?_, ?_⟩, harrN⟩
   ·simp only [List.size_toArray, List.length_append, List.length_take, List.length_drop]; omega
   ·rw [hdl, hin, hrl, him]
    simp only [g1]
    exact shift_row arr.toList vals (i * 4) (vrows.length * 4) ((rows.length - i) * 4) g1 (by omega)
   ·rw [setCells_size, setCells_size]; exact Nat.le_refl _
   ·rw [setCells_other b 0 _ _ _ b' (fun h => hb' (by rw [h])), setCells_other b 0 _ _ _ b' (fun h => hb' (by rw [h]))]; rfl
   ·rw [s1.2.2.2, s2.2.2.2]; exact Nat.le_succ _
  ·obtain rfl : i = rows.length := by omega
   refine (ins41_end_room b rows.length c' vb voff vrows.length vc vals w hm hroom hc63 g1 (fun j hj => hspc j (by omega)) hfz hvs g3).mono ?_
   rintro en w' ⟨rfl, rfl⟩
   have r1 := setCells_row w b (rows.length * 4) arr ty vals p3 (by omega) g3
   have s1 := setCells_rest b vals (rows.length * 4) w
   refine ⟨_, _, some b, rfl, .inr hloc.symm, ⟨⟨b, c', _, ty, rfl, .inr rfl, r1, hroom, hcap.2.2, ?_, ?_⟩, s1.1, s1.2.1, s1.2.2.1, ?_, fun b' _ hb' => ?_, ?_⟩, harrN⟩
   ·simp only [List.size_toArray, List.length_append, List.length_take, List.length_drop]; omega
   ·rw [Nat.add_mul]
    simp only [g1]
    rw [put_row arr.toList vals _ _ g1 (by omega), List.drop_of_length_le (by omega), List.append_nil, List.take_take, Nat.min_self]
   ·rw [setCells_size]; exact Nat.le_refl _
   ·rw [setCells_other b 0 _ _ _ b' (fun h => hb' (by rw [h]))]
   ·rw [s1.2.2.2]; exact Nat.le_refl _
 ·have hbig : (rows.length + vrows.length) * 72 ≤ 140737488355328 := by omega
  have hg1 : rows.length + vrows.length ≤ grownCap w (rows.length + vrows.length) c' 38 := grownCap_ge w _ _ _
  have hg2 := grownCap_le_maxLen w (rows.length + vrows.length) c' 38 (by unfold maxLen; omega)
  have ez : ∀ q, (Builtin.zeroCells (Value.agg #[Value.string ⟨#[]⟩, Value.string ⟨#[]⟩, Value.string ⟨#[]⟩, Value.slice none 0 0]).cells q).size = q * 4 := fun q => by rw [size_zeroCells]; rfl
  generalize hG : grownCap w (rows.length + vrows.length) c' 38 = G at hg1 hg2
  rcases Nat.lt_or_ge i rows.length with hii | hii
  ·have hgr := ins41_grow b rows.length c' i vb voff vrows.length vc _ vals w hii hm (by omega) (by omega) hbig hcl g1 hcs hvs h1c g3
   rw [hG] at hgr
   refine hgr.mono ?_
   rintro en w' ⟨rfl, rfl⟩
   generalize hROW : ((arr.toList.take (rows.length * 4)).take (i * 4)).toArray ++ Builtin.zeroCells (Value.agg #[Value.string ⟨#[]⟩, Value.string ⟨#[]⟩, Value.string ⟨#[]⟩, Value.slice none 0 0]).cells (rows.length + vrows.length - i) ++ Builtin.zeroCells (Value.agg #[Value.string ⟨#[]⟩, Value.string ⟨#[]⟩, Value.string ⟨#[]⟩, Value.slice none 0 0]).cells (G - (rows.length + vrows.length)) = ROW
   have hRs : ROW.size = G * 4 := by
    rw [← hROW, Array.size_append, Array.size_append, ez, ez, List.size_toArray, List.length_take, hcl]; omega
   have hRt : ROW.toList.take (i * 4) = (arr.toList.take (rows.length * 4)).take (i * 4) := by
    rw [← hROW, Array.toList_append, Array.toList_append, List.append_assoc, List.take_append_of_le_length (by rw [List.length_take, hcl]; omega), List.take_of_length_le (by rw [List.length_take]; omega)]
   have eRl := Array.length_toList (xs := ROW)
   have hdl : ((arr.toList.take (rows.length * 4)).drop (i * 4)).length = (rows.length - i) * 4 := by rw [List.length_drop, hcl]; omega
   have r0 : (w.alloc (.cells ROW 38)).drew.heap[w.heap.size]? = some (.cells ROW 38 (0, 0)) := heap_new w _
   have r1 := setCells_row (w.alloc (.cells ROW 38)).drew w.heap.size (i * 4) ROW 38 vals r0 (by omega) g3
   have r2 := setCells_row ((w.alloc (.cells ROW 38)).drew.setCells w.heap.size (i * 4) vals).drew w.heap.size ((i + vrows.length) * 4) _ 38 ((arr.toList.take (rows.length * 4)).drop (i * 4)) r1 (by simp only [List.size_toArray, List.length_append, List.length_take, List.length_drop]; omega) (fun v hv => h1c v (List.mem_of_mem_drop hv))
   have s1 := setCells_rest w.heap.size ((arr.toList.take (rows.length * 4)).drop (i * 4)) ((i + vrows.length) * 4) ((w.alloc (.cells ROW 38)).drew.setCells w.heap.size (i * 4) vals).drew
   have s2 := setCells_rest w.heap.size vals (i * 4) (w.alloc (.cells ROW 38)).drew
   refine ⟨_, _, none, rfl, .inl rfl, ⟨⟨w.heap.size, G, _, 38, rfl, .inl (Nat.le_refl _), r2, hg1, hg2, ?_, ?_⟩, s1.1.trans s2.1, s1.2.1.trans s2.2.1, s1.2.2.1.trans s2.2.2.1, ?_, fun b' hb' _ => ?_, ?_⟩, harrN⟩
   ·simp only [List.size_toArray, List.length_append, List.length_take, List.length_drop]; omega
   ·rw [hin, him, hdl]
    simp only [g1]
    exact grow_row ROW.toList (arr.toList.take (rows.length * 4)) vals (i * 4) (vrows.length * 4) ((rows.length - i) * 4) g1 (by omega) hRt (by omega)
   ·rw [setCells_size]; show _ ≤ (World.setCells _ _ _ _).heap.size; rw [setCells_size]; show _ ≤ (w.heap.push _).size; simp
   ·rw [setCells_other w.heap.size 0 _ _ _ b' (by omega)]
    show (World.setCells _ _ _ _).heap[b']? = _
    rw [setCells_other w.heap.size 0 _ _ _ b' (by omega)]
    exact heap_old w _ b' hb'
   ·rw [s1.2.2.2]; show _ ≤ (World.setCells _ _ _ _).drawn + 1; rw [s2.2.2.2]; show w.drawn ≤ w.drawn + 1 + 1; omega
  ·obtain rfl : i = rows.length := by omega
   have hgr := ins41_end_grow (some ⟨b, 0, none⟩) rows.length c' vb voff vrows.length vc (arr.toList.take (rows.length * 4)) vals w hm (by omega) (by omega) hbig hcl g1 (fun h => by cases h) (fun a ha j v hj => by cases ha; rw [Addr.add_lit, Nat.zero_add]; exact hcs j v hj) hvs g3
   rw [hG] at hgr
   refine hgr.mono ?_
   rintro en w' ⟨rfl, rfl⟩
   refine ⟨_, _, none, rfl, .inl rfl, ⟨⟨w.heap.size, G, _, 38, rfl, .inl (Nat.le_refl _), heap_new w.drew _, hg1, hg2, ?_, ?_⟩, rfl, rfl, rfl, ?_, fun b' hb' _ => heap_old w.drew _ b' hb', Nat.le_succ _⟩, harrN⟩
   ·rw [Array.size_append, ez, List.size_toArray, List.length_append, hcl, g1]; omega
   ·rw [Array.toList_append, List.toList_toArray, List.take_append_of_le_length (by rw [List.length_append, hcl, g1]; omega), List.take_of_length_le (by rw [List.length_append, hcl, g1]; omega), List.drop_of_length_le (by omega), List.append_nil, List.take_take, Nat.min_self]
   ·show _ ≤ (w.heap.push _).size; simp
end Go.Den
