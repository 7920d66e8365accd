import Derived.Test.YtkgiabbndbmmbaaZ00
import Derived.Laws.StructEq
import Derived.Laws.Slices
import Derived.Laws.BytesString
set_option linter.unusedVariables false
set_option linter.unusedSimpArgs false
set_option linter.unusedSectionVars false
namespace Go.Den
variable {e : Env} {x : X} {w : World} {m : Mem}

theorem run_size {P : Program} {t : TypeId} {n : Nat} (h : size? P t = some n) (w : World) : (sizeOf t).run P w = .ok n w := by
 unfold size? at h
 split at h
 ·rename_i i hi; cases h; simp [sizeOf, typeInfo, hi]
 ·cases h
theorem run_agg {P : Program} {t : TypeId} {b : Bool} (h : agg? P t = some b) (w : World) : (isAgg t).run P w = .ok b w := by
 unfold agg? at h
 split at h
 ·rename_i hu; cases h; simp [isAgg, run_underlying hu]
 ·rename_i hu; cases h; simp [isAgg, run_underlying hu]
 ·rename_i d hs ha hu
  cases h
  simp only [isAgg, Sem.run_bind, run_underlying hu, Result.andThen_ok]
  cases d <;> first | rfl | exact (hs _ rfl).elim | exact (ha _ _ rfl).elim
 ·cases h

theorem cell_add {w : World} {b off : Nat} {arr : Array Value} {ty : TypeId} {fr : Nat × Nat} (hg : w.heap[b]? = some (.cells arr ty fr)) (j : Nat) : w.cell? ((⟨b, off, none⟩ : Addr).add j) = arr[off + j]? := by
 rw [add_addr rfl]; simp [World.cell?, hg]

theorem run_loadAgg {P : Program} {t : TypeId} {n : Nat} (ha : agg? P t = some true) (hn : size? P t = some n) {b off : Nat} {vs : List Value} (hl : vs.length = n)
  (hc : ∀ (j : Nat) (v : Value), vs[j]? = some v → w.cell? ((⟨b, off, none⟩ : Addr).add j) = some v) :
  (Instr.loadAt t (.pointer (some ⟨b, off, none⟩))).run P w = .ok (.agg ⟨vs⟩) w := by
 subst hl
 simp [Instr.loadAt, Instr.sureAddr, loadVar, run_agg ha, run_size hn, run_loadCells_list w _ vs hc]
theorem run_loadOne {P : Program} {t : TypeId} (ha : agg? P t = some false) {b off : Nat} {v : Value} (hc : w.cell? ⟨b, off, none⟩ = some v) :
  (Instr.loadAt t (.pointer (some ⟨b, off, none⟩))).run P w = .ok v w := by
 simp [Instr.loadAt, Instr.sureAddr, loadVar, run_agg ha, run_load, hc]

theorem load_sound (hI : Inv e x w m) {R : Type} {t : TypeId} {av : AV} {k : Eff → Option R} {res : R} {u : Value} (hr : Rep x av u) (h : loadE e.P m t av k = some res) :
  ∃ r v, k (.pure r) = some res ∧ Rep x r v ∧ (Instr.loadAt t u).run e.P w = .ok v w := by
 unfold loadE at h
 split at h
 ·rename_i n ha hn
  split at h
  ·rename_i j off
   split at h
   ·rename_i cs hcs
    split at h
    ·rename_i hle
     simp only [Bool.and_eq_true, Nat.ble_eq, Bool.not_eq_true'] at hle
     obtain ⟨hle, hof⟩ := hle
     cases hr with
     |pl _ _ b hb =>
     rw [ptrV_ptr hof]
     obtain ⟨hcs, hpl⟩ := lookupC_eq hcs
     obtain ⟨b', ty, arr, h1, _, h3, h4, _⟩ := hI.slot j cs hcs
     rw [objOf_cells (plain_notMp hpl)] at h3
     rw [hb] at h1
     obtain rfl := Option.some.inj h1
     have h4 := h4.plain hpl
     have hlen := h4.length
     refine ⟨_, .agg ⟨(arr.toList.drop off).take n⟩, h, .agg _ _ ((h4.drop off).take n), run_loadAgg ha hn (by simp only [List.length_take, List.length_drop]; omega) ?_⟩
     intro i v hi
     rw [cell_add h3, ← Array.getElem?_toList]
     rw [List.getElem?_take] at hi
     split at hi
     ·rw [List.getElem?_drop] at hi; exact hi
     ·cases hi
    ·cases h
   ·cases h
  ·rename_i ks row off
   split at h
   ·rename_i hle
    simp only [Nat.ble_eq] at hle
    cases hr with
    |pv _ _ _ b o hof hc hc0 =>
    obtain ⟨vs, h1, h2, h3⟩ := RepL.cellsP (hI.more.M0 ▸ hI.mono) hof hc hc0 ((ks.drop (pvOff off)).take n) (pvOff off) (fun i hi => by
     simp only [List.length_take, List.length_drop] at hi
     rw [List.getElem?_take, if_pos (by omega), List.getElem?_drop])
    refine ⟨_, .agg ⟨vs⟩, h, .agg _ _ h2, run_loadAgg ha hn (by rw [h1]; simp only [List.length_take, List.length_drop]; omega) ?_⟩
    intro i v hi
    rw [add_addr rfl]
    exact hI.sub _ _ _ (h3 i v hi)
   ·cases h
  ·rename_i j ks i q
   split at h
   ·rename_i ks2 rows hlk
    split at h
    ·rename_i hc
     simp only [Bool.and_eq_true, Nat.ble_eq] at hc
     obtain ⟨hc1, hc2⟩ := hc
     have := Kd.sameL_eq hc1
     subst this
     split at h
     ·rename_i hi
      cases hr with
      |pa _ _ _ _ b hb =>
      obtain ⟨b', ty, arr, h1, _, h3, h4, _⟩ := hI.slot j _ (lookupA_eq hlk)
      rw [objOf_cells (isMp_arr _ _)] at h3
      rw [hb] at h1
      obtain rfl := Option.some.inj h1
      obtain ⟨l1, vs, l2, g1, g2, g3, g4, _⟩ := h4.arr.split hi
      have hvl : vs.length = ks.length := by rw [← g4.length]; exact Row.ofKds_length g3
      have hrep := rep_cells_from g4 g3 ((ks.drop q).take n) q (fun i hi => by
       simp only [List.length_take, List.length_drop] at hi
       rw [List.getElem?_take, if_pos (by omega), List.getElem?_drop])
      refine ⟨_, .agg ⟨_⟩, h, .agg _ _ hrep, run_loadAgg ha hn (by simp only [List.length_take, List.length_drop]; omega) ?_⟩
      intro p v hp
      rw [cell_add h3, ← Array.getElem?_toList, g1]
      rw [List.getElem?_take] at hp
      split at hp
      ·rw [List.getElem?_drop] at hp
       have hlt : q + p < vs.length := (List.getElem?_eq_some_iff.1 hp).1
       rw [List.getElem?_append_left (by simp only [List.length_append]; omega), List.getElem?_append_right (by omega), ← hp]
       congr 1; omega
      ·cases hp
     ·cases h
    ·cases h
   ·cases h
  ·cases h
 ·rename_i n ha hn
  split at h
  ·rename_i j off
   split at h
   ·rename_i cs hcs
    split at h
    ·rename_i v hv hof
     cases hr with
     |pl _ _ b hb =>
     rw [ptrV_ptr hof]
     obtain ⟨hcs, hpl⟩ := lookupC_eq hcs
     obtain ⟨b', ty, arr, h1, _, h3, h4, _⟩ := hI.slot j cs hcs
     rw [objOf_cells (plain_notMp hpl)] at h3
     rw [hb] at h1
     obtain rfl := Option.some.inj h1
     obtain ⟨u, hu, hru⟩ := (h4.plain hpl).get hv
     rw [Array.getElem?_toList] at hu
     exact ⟨_, u, h, hru, run_loadOne ha (by simp [World.cell?, h3, hu])⟩
    ·cases h
   ·cases h
  ·rename_i ks row off
   split at h
   ·rename_i kd hkd
    cases hr with
    |pv _ _ _ b o hof hc hc0 =>
    obtain ⟨v, hv, hru⟩ := Rep.cellP (hI.more.M0 ▸ hI.mono) hof hc hc0 hkd
    exact ⟨_, v, h, hru, run_loadOne ha (hI.sub _ _ _ hv)⟩
   ·cases h
  ·rename_i j ks i q
   split at h
   ·rename_i ks2 rows kd hlk hkd
    split at h
    ·rename_i hc1
     have := Kd.sameL_eq hc1
     subst this
     split at h
     ·rename_i hi
      cases hr with
      |pa _ _ _ _ b hb =>
      obtain ⟨b', ty, arr, h1, _, h3, h4, _⟩ := hI.slot j _ (lookupA_eq hlk)
      rw [objOf_cells (isMp_arr _ _)] at h3
      rw [hb] at h1
      obtain rfl := Option.some.inj h1
      obtain ⟨l1, vs, l2, g1, g2, g3, g4, _⟩ := h4.arr.split hi
      obtain ⟨v, hv, hru⟩ := rep_at g4 g3 hkd
      refine ⟨_, v, h, hru, run_loadOne ha ?_⟩
      have hlt : q < vs.length := (List.getElem?_eq_some_iff.1 hv).1
      simp only [World.cell?, h3, Option.isSome_none, Bool.false_eq_true, if_false]
      rw [← Array.getElem?_toList, g1, List.getElem?_append_left (by simp only [List.length_append]; omega), List.getElem?_append_right (by omega), ← hv]
      congr 1; omega
     ·cases h
    ·cases h
   ·cases h
  ·cases h
 ·cases h

theorem Rep.one {av : AV} (hc : av.isCell = true) : ∀ {v}, Rep x av v → v.oneCell' = true := by
 intro v h
 cases h with
 |dv d v h => cases d with
  |val u => cases h; assumption
  |sl => exact RepD.one h
 |sl _ _ _ _ _ h _ => exact RepD.one h
 |agg => simp [AV.isCell] at hc
 |tup => simp [AV.isCell] at hc
 |junk => simp [AV.isCell] at hc
 |pl k off b => unfold ptrV; split <;> rfl
 |pv => rfl
 |fn => rfl
 |ifc => rfl
 |ms => rfl
 |pa => rfl
theorem RepL.ones {x : X} : ∀ {l : List AV} {vs : List Value}, RepL x l vs → AV.areCells l = true → ∀ v ∈ vs, v.oneCell' = true
 |_, _, .nil, _, v, hv => by simp at hv
 |_, _, .cons a u l vs ha hl, hc, v, hv => by
  simp only [AV.areCells, Bool.and_eq_true] at hc
  rcases List.mem_cons.1 hv with rfl | hv
  ·exact Rep.one hc.1 ha
  ·exact RepL.ones hl hc.2 v hv

theorem Rep.cells {av : AV} {v : Value} {l : List AV} (h : Rep x av v) (hl : av.cells = some l) (h1 : AV.areCells l = true ∨ (∃ cs, av = .agg cs)) : RepL x l v.cells.toList := by
 cases h with
 |agg cs vs hh => simp only [AV.cells, Option.some.injEq] at hl; subst hl; exact hh
 |tup => simp [AV.cells] at hl
 |junk => simp [AV.cells] at hl
 |dv d v hh =>
  simp only [AV.cells, Option.some.injEq] at hl; subst hl
  have : v.oneCell' = true := RepD.one hh
  cases v <;> first | (simp [Value.oneCell'] at this; done) | exact .cons _ _ _ _ (.dv _ _ hh) .nil
 |sl n ks rows r v hh hr =>
  simp only [AV.cells, Option.some.injEq] at hl; subst hl
  have : v.oneCell' = true := RepD.one hh
  cases v <;> first | (simp [Value.oneCell'] at this; done) | exact .cons _ _ _ _ (.sl _ _ _ _ _ hh hr) .nil
 |pl k off b hh =>
  simp only [AV.cells, Option.some.injEq] at hl; subst hl
  have e : (ptrV b off).cells.toList = [ptrV b off] := by unfold ptrV; split <;> rfl
  rw [e]; exact .cons _ _ _ _ (.pl _ _ _ hh) .nil
 |pv ks row off b o h2 h3 h4 => simp only [AV.cells, Option.some.injEq] at hl; subst hl; exact .cons _ _ _ _ (.pv _ _ _ _ _ h2 h3 h4) .nil
 |fn f cs vs hh => simp only [AV.cells, Option.some.injEq] at hl; subst hl; exact .cons _ _ _ _ (.fn _ _ _ hh) .nil
 |ifc t a v hh => simp only [AV.cells, Option.some.injEq] at hl; subst hl; exact .cons _ _ _ _ (.ifc _ _ _ hh) .nil
 |ms k kd off n c b o c' hh g1 g2 g3 => simp only [AV.cells, Option.some.injEq] at hl; subst hl; exact .cons _ _ _ _ (.ms _ _ _ _ _ _ _ _ hh g1 g2 g3) .nil
 |pa k kd i j b hh => simp only [AV.cells, Option.some.injEq] at hl; subst hl; exact .cons _ _ _ _ (.pa _ _ _ _ _ hh) .nil
theorem Rep.cells' {av : AV} {v : Value} {l : List AV} (h : Rep x av v) (hl : av.cells = some l) : RepL x l v.cells.toList := by
 by_cases h1 : ∃ cs, av = .agg cs
 ·exact h.cells hl (.inr h1)
 ·refine h.cells hl (.inl ?_)
  cases h with
  |agg cs => exact absurd ⟨cs, rfl⟩ h1
  |tup => simp [AV.cells] at hl
  |junk => simp [AV.cells] at hl
  |dv d v hh =>
   simp only [AV.cells, Option.some.injEq] at hl; subst hl
   have h5 : v.oneCell' = true := RepD.one hh
   cases hh with
   |val =>  cases v <;> first | (simp [Value.oneCell'] at h5; done) | rfl
   |nil => rfl
   |sl => rfl
  |sl => simp only [AV.cells, Option.some.injEq] at hl; subst hl; rfl
  |pl => simp only [AV.cells, Option.some.injEq] at hl; subst hl; rfl
  |pv => simp only [AV.cells, Option.some.injEq] at hl; subst hl; rfl
  |fn => simp only [AV.cells, Option.some.injEq] at hl; subst hl; rfl
  |ifc => simp only [AV.cells, Option.some.injEq] at hl; subst hl; rfl
  |ms => simp only [AV.cells, Option.some.injEq] at hl; subst hl; rfl
  |pa => simp only [AV.cells, Option.some.injEq] at hl; subst hl; rfl

theorem RepL.flats {x : X} : ∀ {l : List AV} {vs : List Value} {r : Row}, RepL x l vs → AV.flats l = some r → CellsV x.M r vs ∧ ∀ v ∈ vs, v.oneCell' = true
 |_, _, _, .nil, h => by simp only [AV.flats, Option.some.injEq] at h; subst h; exact ⟨.nil, fun v hv => by cases hv⟩
 |_, _, _, .cons b v l vs hb hl, h => by
  simp only [AV.flats] at h
  split at h
  ·rename_i d hd
   split at h
   ·rename_i r hr
    cases h
    obtain ⟨h1, h2⟩ := RepL.flats hl hr
    have hd' : RepD x.M d v := by
     cases hb with
     |dv d' _ h => simp only [AV.flat, Option.some.injEq] at hd; subst hd; exact h
     |sl n ks rows r _ h _ => simp only [AV.flat, Option.some.injEq] at hd; subst hd; exact h
     |agg => simp [AV.flat] at hd
     |tup => simp [AV.flat] at hd
     |pl => simp [AV.flat] at hd
     |pv => simp [AV.flat] at hd
     |fn => simp [AV.flat] at hd
     |ifc => simp [AV.flat] at hd
     |ms => simp [AV.flat] at hd
     |pa => simp [AV.flat] at hd
     |junk => simp [AV.flat] at hd
    refine ⟨.cons _ _ _ _ hd' h1, fun u hu => ?_⟩
    rcases List.mem_cons.1 hu with rfl | hu
    ·exact RepD.one hd'
    ·exact h2 u hu
   ·cases h
  ·cases h
theorem ofKds_append : ∀ {ks : List Kd} {r : Row}, Row.ofKds ks r = true → ∀ {ks' : List Kd} {r' : Row}, Row.ofKds ks' r' = true → Row.ofKds (ks ++ ks') (r ++ r') = true
 |[], [], _, _, _, h => h
 |k :: ks, d :: r, h, _, _, h' => by
  simp only [Row.ofKds, List.cons_append, Bool.and_eq_true] at h ⊢
  exact ⟨h.1, ofKds_append h.2 h'⟩
 |[], _ :: _, h, _, _, _ => by simp [Row.ofKds] at h
 |_ :: _, [], h, _, _, _ => by simp [Row.ofKds] at h
theorem ofKds_take : ∀ {ks : List Kd} {r : Row}, Row.ofKds ks r = true → ∀ n, Row.ofKds (ks.take n) (r.take n) = true
 |[], [], _, n => by simp [Row.ofKds]
 |k :: ks, d :: r, h, 0 => rfl
 |k :: ks, d :: r, h, n + 1 => by
  simp only [Row.ofKds, List.take_succ_cons, Bool.and_eq_true] at h ⊢
  exact ⟨h.1, ofKds_take h.2 n⟩
 |[], _ :: _, h, _ => by simp [Row.ofKds] at h
 |_ :: _, [], h, _ => by simp [Row.ofKds] at h
theorem ofKds_drop : ∀ {ks : List Kd} {r : Row}, Row.ofKds ks r = true → ∀ n, Row.ofKds (ks.drop n) (r.drop n) = true
 |[], [], _, n => by simp [Row.ofKds]
 |k :: ks, d :: r, h, 0 => h
 |k :: ks, d :: r, h, n + 1 => by
  simp only [Row.ofKds, List.drop_succ_cons, Bool.and_eq_true] at h ⊢
  exact ofKds_drop h.2 n
 |[], _ :: _, h, _ => by simp [Row.ofKds] at h
 |_ :: _, [], h, _ => by simp [Row.ofKds] at h
theorem ofKds_splice {ks : List Kd} {r new : Row} {q n : Nat} (h : Row.ofKds ks r = true) (hn : Row.ofKds ((ks.drop q).take n) new = true) (hl : new.length = n) : Row.ofKds ks (r.take q ++ new ++ r.drop (q + new.length)) = true := by
 have := ofKds_append (ofKds_append (ofKds_take h q) hn) (ofKds_drop h (q + n))
 rw [hl]
 have e1 : ks.take q ++ (ks.drop q).take n ++ ks.drop (q + n) = ks := by
  rw [← List.take_add, List.take_append_drop]
 rwa [e1] at this

theorem store_sound (hI : Inv e x w m) {R : Type} {t : TypeId} {av bv : AV} {k : Eff → Option R} {res : R} {u v : Value} (hr : Rep x av u) (hv : Rep x bv v) (h : storeE e.P m t av bv k = some res) :
  ∃ w' p cs, k (.full .junk [] [] [(p, cs)]) = some res ∧ (Instr.storeAt t u v).run e.P w = .ok () w' ∧ Inv e x w' (write m p cs) := by
 unfold storeE at h
 split at h
 ·rename_i n j off new hn hnew
  split at h
  ·rename_i cs hcs
   split at h
   ·rename_i hc
    simp only [Bool.and_eq_true, Nat.ble_eq, beq_eq] at hc
    obtain ⟨⟨⟨⟨hc1, hc2⟩, hc3⟩, hcv⟩, hof⟩ := hc
    cases hr with
    |pl _ _ b hb =>
    rw [ptrV_ptr (by simpa using hof)]
    obtain ⟨hcs, hpl⟩ := lookupC_eq hcs
    obtain ⟨b', ty, arr, h1, _, h3, h4, h5⟩ := hI.slot j cs hcs
    rw [objOf_cells (plain_notMp hpl)] at h3
    rw [hb] at h1
    obtain rfl := Option.some.inj h1
    have h4 := h4.plain hpl
    have hvs := hv.cells' hnew
    have hlen : cs.length = arr.size := by rw [← Array.length_toList]; exact h4.length
    have hvl := hvs.length
    have hone := hvs.ones hc3
    have hst := run_storeCells_at e.P b off ty v.cells.toList 0 arr w h3 (by simp only [Nat.add_zero]; rw [← hvl]; omega) hone
    simp only [Nat.add_zero] at hst
    refine ⟨_, j, _, h, ?_, hI.withSlot j cs (splice cs off new) b hcs hb ty arr (arr.toList.take off ++ v.cells.toList ++ arr.toList.drop (off + v.cells.toList.length)).toArray h3 (by simp only [List.size_toArray, List.length_append, List.length_take, List.length_drop, Array.length_toList]; omega) (virLe_imp hcv) ?_⟩
    ·have hsz : v.cells.size = n := by rw [← Array.length_toList]; omega
     simp [Instr.storeAt, Instr.sureAddr, storeVar, run_size hn, hsz, hst]
    ·unfold splice
     rw [hvl]
     exact .inl (((h4.take off).append hvs).append (h4.drop _))
   ·cases h
  ·cases h
 ·rename_i n j ks i q new hn hnew
  split at h
  ·rename_i ks2 rows fl hlk hfl
   split at h
   ·rename_i hc
    simp only [Bool.and_eq_true, Nat.ble_eq, beq_eq] at hc
    obtain ⟨⟨⟨hc1, hc2⟩, hc3⟩, hc4⟩ := hc
    have := Kd.sameL_eq hc1
    subst this
    split at h
    ·rename_i hi
     cases hr with
     |pa _ _ _ _ b hb =>
     obtain ⟨b', ty, arr, h1, _, h3, h4, h5⟩ := hI.slot j _ (lookupA_eq hlk)
     rw [objOf_cells (isMp_arr _ _)] at h3
     rw [hb] at h1
     obtain rfl := Option.some.inj h1
     obtain ⟨l1, vs, l2, g1, g2, g3, g4, g5⟩ := h4.arr.split hi
     have hvs := hv.cells' hnew
     obtain ⟨hfv, hone⟩ := RepL.flats hvs hfl
     have hvl := hvs.length
     have hvl2 : vs.length = ks.length := by rw [← g4.length]; exact Row.ofKds_length g3
     have hsz : arr.size = (l1 ++ vs ++ l2).length := by rw [← g1, Array.length_toList]
     simp only [List.length_append] at hsz
     have hst := run_storeCells_at e.P b (i * ks.length + q) ty v.cells.toList 0 arr w h3 (by simp only [Nat.add_zero]; rw [← hvl]; omega) hone
     simp only [Nat.add_zero] at hst
     refine ⟨_, j, _, h, ?_, hI.withSlot j _ [.arr ks (rows.set i (spliceD (rows.getD i []) q fl))] b (lookupA_eq hlk) hb ty arr (arr.toList.take (i * ks.length + q) ++ v.cells.toList ++ arr.toList.drop (i * ks.length + q + v.cells.toList.length)).toArray h3 (by simp only [List.size_toArray, List.length_append, List.length_take, List.length_drop, Array.length_toList]; omega) (fun h => by cases h) ?_⟩
     ·have hsz : v.cells.size = n := by rw [← Array.length_toList]; omega
      simp [Instr.storeAt, Instr.sureAddr, storeVar, run_size hn, hsz, hst]
     ·have hrow : CellsV x.M (spliceD (rows.getD i []) q fl) (vs.take q ++ v.cells.toList ++ vs.drop (q + v.cells.toList.length)) := by
       unfold spliceD
       rw [hfv.length]
       exact ((g4.take q).append hfv).append (g4.drop _)
      have hk : Row.ofKds ks (spliceD (rows.getD i []) q fl) = true := by
       unfold spliceD
       have := ofKds_splice g3 hc4 (by rw [hfv.length, ← hvl]; omega)
       exact this
      have := g5 _ _ hk hrow
      refine .inr ⟨ks, _, rfl, ?_⟩
      have e1 : arr.toList.take (i * ks.length + q) ++ v.cells.toList ++ arr.toList.drop (i * ks.length + q + v.cells.toList.length) = l1 ++ (vs.take q ++ v.cells.toList ++ vs.drop (q + v.cells.toList.length)) ++ l2 := by
       rw [g1, List.append_assoc l1 vs l2, ← g2, List.take_length_add_append, List.take_append_of_le_length (by omega), Nat.add_assoc, List.drop_length_add_append, List.drop_append_of_le_length (by rw [← hvl]; omega)]
       simp only [List.append_assoc]
      simp only [e1]
      exact this
    ·cases h
   ·cases h
  ·cases h
 ·cases h

theorem field_sound {P : Program} {s ft : TypeId} {f off n : Nat} (h : field? P s f = some (off, ft)) (hn : size? P ft = some n) (h0 : 0 < n) (b o : Nat) (w : World) :
  (Instr.fieldAt s (.pointer (some ⟨b, o, none⟩)) f).run P w = .ok (.pointer (some ⟨b, o + off, none⟩)) w := by
 unfold field? at h
 split at h
 ·rename_i fs hu
  split at h
  ·rename_i fl hf
   simp only [Option.some.injEq, Prod.mk.injEq] at h
   obtain ⟨rfl, rfl⟩ := h
   have hne : n ≠ 0 := by omega
   simp [Instr.fieldAt, run_underlying hu, hf, Instr.sureAddr, fieldPlace, run_size hn, hne, add_addr]
  ·cases h
 ·cases h
end Go.Den
namespace Go.Den
theorem mem_two {k j d : Nat} : mem k [j, d] = (mem k [j] || mem k [d]) := by simp [mem]
mutual
theorem scrub_scrub (j d : Nat) : ∀ a, AV.scrub [j] [] (AV.scrub [d] [] a) = AV.scrub [j, d] [] a
 | .dv _ => rfl
 | .sl n kd rows r => by simp only [AV.scrub]; cases r <;> rfl
 | .agg cs => by simp only [AV.scrub]; rw [scrubL_scrub j d cs]
 | .tup cs => by simp only [AV.scrub]; rw [scrubL_scrub j d cs]
 | .pl k off => by
  simp only [AV.scrub, mem_two]
  cases h1 : mem k [d] <;> cases h2 : mem k [j] <;> simp [AV.scrub, h1, h2]
 | .pv .. => rfl
 | .fn f cs => by simp only [AV.scrub]; rw [scrubL_scrub j d cs]
 | .ifc t v => by simp only [AV.scrub]; rw [scrub_scrub j d v]
 | .ms k kd off n c => by
  simp only [AV.scrub, mem_two]
  cases h1 : mem k [d] <;> cases h2 : mem k [j] <;> simp [AV.scrub, h1, h2]
 | .pa k kd i q => by
  simp only [AV.scrub, mem_two]
  cases h1 : mem k [d] <;> cases h2 : mem k [j] <;> simp [AV.scrub, h1, h2]
 | .arr .. => rfl
 | .junk => rfl
theorem scrubL_scrub (j d : Nat) : ∀ l, AV.scrubL [j] [] (AV.scrubL [d] [] l) = AV.scrubL [j, d] [] l
 |[] => rfl
 |a :: l => by simp only [AV.scrubL]; rw [scrub_scrub j d a, scrubL_scrub j d l]
end
mutual
theorem scrub_idem (j : Nat) : ∀ a, AV.scrub [j] [] (AV.scrub [j] [] a) = AV.scrub [j] [] a
 | .dv _ => rfl
 | .sl n kd rows r => by simp only [AV.scrub]; cases r <;> rfl
 | .agg cs => by simp only [AV.scrub]; rw [scrubL_idem j cs]
 | .tup cs => by simp only [AV.scrub]; rw [scrubL_idem j cs]
 | .pl k off => by simp only [AV.scrub]; cases h2 : mem k [j] <;> simp [AV.scrub, h2]
 | .pv .. => rfl
 | .fn f cs => by simp only [AV.scrub]; rw [scrubL_idem j cs]
 | .ifc t v => by simp only [AV.scrub]; rw [scrub_idem j v]
 | .ms k kd off n c => by simp only [AV.scrub]; cases h2 : mem k [j] <;> simp [AV.scrub, h2]
 | .pa k kd i q => by simp only [AV.scrub]; cases h2 : mem k [j] <;> simp [AV.scrub, h2]
 | .arr .. => rfl
 | .junk => rfl
theorem scrubL_idem (j : Nat) : ∀ l, AV.scrubL [j] [] (AV.scrubL [j] [] l) = AV.scrubL [j] [] l
 |[] => rfl
 |a :: l => by simp only [AV.scrubL]; rw [scrub_idem j a, scrubL_idem j l]
end
theorem lookup_move (m : Mem) (j d : Nat) (cs : List AV) (k : Nat) :
  lookup (writes (scrubM [j, d] [] (dropAll m [j, d])) [(d, cs)]) k = if k = d then some cs else if k = j then none else (lookup m k).map (AV.scrubL [j, d] []) := by
 simp only [writes, lookup_write, lookup_scrubM, lookup_dropAll]
 by_cases h1 : k = d
 ·simp [h1]
 ·by_cases h2 : k = j
  ·simp [h1, h2, mem]
  ·have : mem k [j, d] = false := by
    cases hb : mem k [j, d] with
    |false => rfl
    |true => have := mem_iff.1 hb; simp [h1, h2] at this
   simp [h1, h2, this]
def X.moved (x : X) (j d b : Nat) : X := { x with loc := fun k => if k = d then some b else if k = j then none else x.loc k, cap := fun k => if k = d then x.cap j else x.cap k }
theorem Ext.moved (x : X) (j d b : Nat) : Ext x (x.moved j d b) [j, d] [] := by
 have hne : ∀ k, mem k [j, d] = false → k ≠ d ∧ k ≠ j := by
  intro k hk
  constructor
  ·rintro rfl; rw [mem_iff.2 (by simp)] at hk; cases hk
  ·rintro rfl; rw [mem_iff.2 (by simp)] at hk; cases hk
 exact ⟨Sub.refl _, fun k b' hk h => by simp only [X.moved]; rw [if_neg (hne k hk).1, if_neg (hne k hk).2]; exact h, fun _ _ _ h => h, fun k hk => by simp only [X.moved]; rw [if_neg (hne k hk).1], rfl⟩
theorem Inv.moved {e : Env} {x : X} {w : World} {m : Mem} (h : Inv e x w m) {j d b : Nat} {ks : List Kd} {rows : Rows} (hj : j < 1000) (hd : d < 1000) (hlk : lookup m j = some [.arr ks rows]) (hb : x.loc j = some b) :
  Inv e (x.moved j d b) w (writes (scrubM [j, d] [] (dropAll m [j, d])) [(d, [.arr ks rows])]) := by
 have hx := Ext.moved x j d b
 have hl : ∀ k cs, lookup (writes (scrubM [j, d] [] (dropAll m [j, d])) [(d, [.arr ks rows])]) k = some cs → (k = d ∧ cs = [.arr ks rows]) ∨ (k ≠ d ∧ k ≠ j ∧ ∃ c0, lookup m k = some c0 ∧ cs = AV.scrubL [j, d] [] c0) := by
  intro k cs hk
  rw [lookup_move] at hk
  by_cases h1 : k = d
  ·rw [if_pos h1] at hk; cases hk; exact .inl ⟨h1, rfl⟩
  ·by_cases h2 : k = j
   ·rw [if_neg h1, if_pos h2] at hk; cases hk
   ·rw [if_neg h1, if_neg h2] at hk
    obtain ⟨c0, h0, h3⟩ := Option.map_eq_some_iff.1 hk
    exact .inr ⟨h1, h2, c0, h0, h3.symm⟩
 have hloc : ∀ k, k ≠ d → k ≠ j → (x.moved j d b).loc k = x.loc k := fun k h1 h2 => by simp only [X.moved]; rw [if_neg h1, if_neg h2]
 have hlocd : (x.moved j d b).loc d = some b := by simp [X.moved]
 refine ⟨h.sub, ?_, ?_, h.tok, ?_, h.toktok, h.os, h.tape, h.output, h.size, h.old, h.mono, h.new, ?_, h.low, ⟨?_, ?_, h.more.M0, ?_, h.more.drawn⟩, h.glob⟩
 ·intro k cs hk
  rcases hl k cs hk with ⟨rfl, rfl⟩ | ⟨h1, h2, c0, h0, rfl⟩
  ·obtain ⟨b', ty, arr, p1, p2, p3, p4, p5⟩ := h.slot j _ hlk
   rw [hb] at p1; cases p1
   refine ⟨b, ty, arr, hlocd, ?_, p3, Cont.inr_arr p4.arr, p5⟩
   rcases p2 with p2 | ⟨_, p2⟩
   ·exact .inl p2
   ·omega
  ·obtain ⟨b', ty, arr, p1, p2, p3, p4, p5⟩ := h.slot k c0 h0
   exact ⟨b', ty, arr, by rw [hloc k h1 h2]; exact p1, p2, by rw [objOf_congr (isMp_scrub _ _ c0)]; exact p3, p4.scrub hx, p5⟩
 ·intro k k' cs cs' b' hk hk' hb1 hb2
  rcases hl k cs hk with ⟨rfl, rfl⟩ | ⟨h1, h2, c0, h0, rfl⟩
  ·rcases hl k' cs' hk' with ⟨rfl, _⟩ | ⟨h1', h2', c1, h0', rfl⟩
   ·rfl
   ·rw [hlocd] at hb1; cases hb1
    rw [hloc k' h1' h2'] at hb2
    exact absurd (h.inj k' j c1 _ b h0' hlk hb2 hb) h2'
  ·rcases hl k' cs' hk' with ⟨rfl, _⟩ | ⟨h1', h2', c1, h0', rfl⟩
   ·rw [hlocd] at hb2; cases hb2
    rw [hloc k h1 h2] at hb1
    exact absurd (h.inj k j c0 _ b h0 hlk hb1 hb) h2
   ·rw [hloc k h1 h2] at hb1; rw [hloc k' h1' h2'] at hb2
    exact h.inj k k' c0 c1 b' h0 h0' hb1 hb2
 ·intro k a n c sz i cs hk hn hi hli
  rcases hl i cs hi with ⟨rfl, rfl⟩ | ⟨h1, h2, c0, h0, rfl⟩
  ·rw [hlocd] at hli
   exact h.tokslot k a n c sz j _ hk hn hlk (by rw [hb]; exact hli)
  ·rw [hloc i h1 h2] at hli
   exact h.tokslot k a n c sz i c0 hk hn h0 hli
 ·intro k hk
  rw [hloc k (by omega) (by omega)]; exact h.ext k hk
 ·intro k b' cs hk hmp hb1
  rcases hl k cs hk with ⟨rfl, rfl⟩ | ⟨h1, h2, c0, h0, rfl⟩
  ·rw [hlocd] at hb1; cases hb1
   obtain ⟨arr, ty, r1, r2⟩ := h.more.room j b _ hlk rfl hb
   exact ⟨arr, ty, r1, by simp only [X.moved, if_true]; exact r2⟩
  ·rw [hloc k h1 h2] at hb1
   rw [isMp_scrub] at hmp
   obtain ⟨arr, ty, r1, r2⟩ := h.more.room k b' c0 h0 hmp hb1
   exact ⟨arr, ty, r1, by simp only [X.moved]; rw [if_neg h1]; exact r2⟩
 ·intro k hk
  simp only [X.moved]; rw [if_neg (by omega)]; exact h.more.ext k hk
 ·intro k b' cs arr ty hk hv hb1 hh
  rcases hl k cs hk with ⟨rfl, rfl⟩ | ⟨h1, h2, c0, h0, rfl⟩
  ·cases hv
  ·rw [hloc k h1 h2] at hb1
   exact h.more.vir k b' c0 arr ty h0 (virgin_scrub hv) hb1 hh
theorem arrV_of {M : Mm} {ks : List Kd} : ∀ {rows : Rows} {b o : Nat}, RowsAt M b o ks rows → ∀ {vs : List Value}, vs.length = rows.length * ks.length → (∀ (j : Nat) (v : Value), vs[j]? = some v → M b (o + j) = some v) → ∀ rest, ArrV M ks rows (vs ++ rest)
 |[], b, o, _, vs, hl, _, rest => .nil _
 |row :: rows, b, o, h, vs, hl, hv, rest => by
  cases h with
  |cons _ _ _ _ _ h1 h2 h3 =>
  have hlr := Row.ofKds_length h1
  have hvl : ks.length ≤ vs.length := by rw [hl]; simp only [List.length_cons, Nat.add_mul, Nat.one_mul]; omega
  have e1 : vs = vs.take ks.length ++ vs.drop ks.length := (List.take_append_drop _ _).symm
  rw [e1, List.append_assoc]
  refine .cons row (vs.take ks.length) rows _ h1 ?_ ?_
  ·exact cells_of h2 (by simp [hlr]; omega) fun j v hj => by
    rw [List.getElem?_take] at hj
    split at hj
    ·exact hv j v hj
    ·cases hj
  ·refine arrV_of h3 (by simp only [List.length_drop, hl, List.length_cons, Nat.add_mul, Nat.one_mul]; omega) (fun j v hj => ?_) rest
   rw [List.getElem?_drop] at hj
   have := hv _ v hj
   rw [← this]; congr 1; omega
where cells_of {M : Mm} : ∀ {row : Row} {b o : Nat}, CellsAt M b o row → ∀ {us : List Value}, us.length = row.length → (∀ (j : Nat) (v : Value), us[j]? = some v → M b (o + j) = some v) → CellsV M row us
 |[], b, o, _, us, hl, _ => by
  have : us = [] := List.eq_nil_of_length_eq_zero hl
  subst this; exact .nil
 |d :: r, b, o, h, us, hl, hv => by
  cases h with
  |cons _ _ _ v _ h1 h2 h3 =>
  cases us with
  |nil => simp at hl
  |cons u us =>
   have h4 := hv 0 u rfl
   rw [Nat.add_zero, h1] at h4
   cases h4
   exact .cons d v r us h2 (cells_of h3 (by simpa using hl) fun j u hj => by
    have := hv (j + 1) u (by simpa using hj)
    rw [← this]; congr 1; omega)
theorem append_ms {e : Env} {x : X} {w : World} {m : Mem} (h : Inv e x w m) {j d c : Nat} {n2 : Bool} {ks : List Kd} {rows2 : Rows} {r2 : Right} {v u : Value} (hj : j < 1000) (hd : d < 1000)
  (hs : Rep x (.ms j ks 0 0 c) v) (hlk : lookup m j = some [.arr ks []]) (hu : Rep x (.sl n2 ks rows2 r2) u)
  {t ty el : TypeId} {i : TypeInfo} {z : Value} (ht : e.P.underlying t = some (.slice el)) (hi : e.P.info? el = some i) (hz : i.zero = some z) (hisz : i.size = ks.length) (hzs : z.cells.size = i.size)
  (hby : 0 < i.bytes) (hbytes : rows2.length * i.bytes ≤ 140737488355328) :
  ∃ v' w' x', (Builtin.append_ #[t, t] ty #[v, u]).run e.P w = .ok v' w' ∧ Rep x' (.ms d ks 0 rows2.length rows2.length) v' ∧ Inv e x' w' (writes (scrubM [j, d] [] (dropAll m [j, d])) [(d, [.arr ks rows2])]) ∧ Ext x x' [j, d] [] := by
 have hlen : rows2.length ≤ 140737488355328 := Nat.le_trans (Nat.le_mul_of_pos_right _ hby) hbytes
 have h63 : rows2.length ≤ maxLen := by unfold maxLen; omega
 cases hs with
 |ms _ _ _ _ _ b o c' hb g1 g2 g3 =>
 cases hu with
 |sl _ _ _ _ _ hu _ =>
 have hmv := h.moved hj hd hlk hb
 by_cases hm : rows2 = []
 ·subst hm
  have hu' : u = .slice none 0 0 ∨ ∃ a c2, u = .slice (some a) 0 c2 := by
   rcases hu.rows with ⟨_, _, rfl⟩ | ⟨a, c2, _, rfl, _⟩
   ·exact .inl rfl
   ·exact .inr ⟨a, c2, rfl⟩
  exact ⟨_, w, x.moved j d b, run_append_zero w t ty el i ht hi (some ⟨b, o, none⟩) 0 c' (Nat.zero_le _) u hu', .ms d ks 0 0 0 b o c' (by simp [X.moved]) (Nat.le_refl _) g2 ⟨Nat.zero_le _, by simp only [X.moved, if_true]; exact g3.2.1, g3.2.2⟩, hmv, Ext.moved x j d b⟩
 ·have hpos : 0 < rows2.length := List.length_pos_iff.2 hm
  rcases hu.rows with ⟨_, h1, _⟩ | ⟨a2, c2, _, rfl, hc2, hsp2, hr2⟩
  ·exact absurd h1 hm
  obtain ⟨news, hnl, hnv, hn1, hncell⟩ := cells_of_rows h hsp2 hr2
  by_cases hroom : rows2.length ≤ c'
  ·have ho : o = 0 := by have := g2 (by omega); omega
   subst ho
   obtain ⟨b', tag, cur, p1, p2, p3, p4, p5⟩ := h.slot j _ hlk
   rw [hb] at p1; cases p1
   rw [objOf_cells (isMp_arr _ _)] at p3
   obtain ⟨cur', tag', q1, q2⟩ := h.more.room j b _ hlk rfl hb
   rw [p3] at q1; cases q1
   have hcs : rows2.length * ks.length ≤ cur.size := by
    have h1 := g3.2.1
    have h2 : rows2.length * ks.length ≤ c' * ks.length := Nat.mul_le_mul_right _ hroom
    omega
   have hrun := run_append_place (P := e.P) w t ty el i ht hi b 0 c' cur tag p3 a2 rows2.length c2 news (by rw [hisz]; exact hnl) hncell hn1 (by omega) (by omega)
   simp only [Nat.zero_add, Nat.zero_mul, List.take_zero, List.nil_append] at hrun
   have hsz : (news ++ cur.toList.drop news.length).toArray.size = cur.size := by
    simp only [List.size_toArray, List.length_append, List.length_drop, Array.length_toList]; omega
   have hI2 := hmv.withSlot d [.arr ks []] [.arr ks rows2] b (by rw [lookup_move, if_pos rfl]) (by simp [X.moved]) tag cur (news ++ cur.toList.drop news.length).toArray p3 (by omega) (fun h => by cases h)
    (.inr ⟨ks, rows2, rfl, by
     show ArrV x.M ks rows2 (news ++ cur.toList.drop news.length)
     exact arrV_of hr2 hnl hnv _⟩)
   refine ⟨_, _, x.moved j d b, hrun, .ms d ks 0 rows2.length rows2.length b 0 c' (by simp [X.moved]) (Nat.le_refl _) (fun _ => by simp) ⟨hroom, by simp only [X.moved, if_true]; exact g3.2.1, g3.2.2⟩, hI2.congr fun k => ?_, Ext.moved x j d b⟩
   rw [lookup_write, lookup_move, lookup_move]
   by_cases hk : k = d <;> simp [hk]
  ·have hrun := run_append_grow (P := e.P) w t ty el i z ht hi hz ⟨b, o, none⟩ 0 c' [] (by simp) (by simp) a2 rows2.length c2 news (by rw [hisz]; exact hnl) hncell (by omega) (by omega) (growslice_fits (by omega) (by simpa using hbytes))
   have hge := grownCap_ge w (0 + rows2.length) c' el
   have hcm := grownCap_le_maxLen w (0 + rows2.length) c' el (by simpa using h63)
   simp only [Nat.zero_add, List.nil_append] at hrun hge hcm
   generalize hA : (#[] ++ news.toArray ++ Builtin.zeroCells z.cells (grownCap w rows2.length c' el - rows2.length) : Array Value) = arr at hrun
   have hasz : arr.size = grownCap w rows2.length c' el * ks.length := by
    rw [← hA]
    simp only [Array.size_append, List.size_toArray, List.length_nil, size_zeroCells, hzs, hisz, hnl, Array.size_empty, Nat.zero_add, ← Nat.add_mul]; congr 1; omega
   have hatl : arr.toList = news ++ (Builtin.zeroCells z.cells (grownCap w rows2.length c' el - rows2.length)).toList := by
    rw [← hA]; simp
   have hB := h.drew.withBox d hd arr el [.arr ks rows2] (fun h => by cases h) (.inr ⟨ks, rows2, rfl, by
    show ArrV x.M ks rows2 arr.toList
    rw [hatl]; exact arrV_of hr2 hnl hnv _⟩)
   have hx1 : Ext x (x.withBox d w.drew.heap.size arr.size) [j, d] [] := by
    have := Ext.withBox x d w.drew.heap.size arr.size
    refine ⟨this.M, fun k b' hk hl => this.loc k b' ?_ hl, this.tk, fun k hk => this.cap k ?_, this.M0⟩
    ·simp only [mem, Bool.or_eq_false_iff] at hk ⊢; exact ⟨hk.2.1, trivial⟩
    ·simp only [mem, Bool.or_eq_false_iff] at hk ⊢; exact ⟨hk.2.1, trivial⟩
   refine ⟨_, _, x.withBox d w.drew.heap.size arr.size, hrun, .ms d ks 0 rows2.length rows2.length w.heap.size 0 _ (by simp [X.withBox]) (Nat.le_refl _) (fun _ => by simp) ⟨hge, by simp only [X.withBox, if_true]; rw [hasz]; omega, hcm⟩, ?_, hx1⟩
   by_cases hjd : j = d
   ·subst hjd
    refine hB.congr fun k => ?_
    rw [lookup_move, lookup_box]
    by_cases hk : k = j
    ·simp [hk]
    ·simp only [if_neg hk]
     cases lookup m k with
     |none => rfl
     |some cs =>
      simp only [Option.map_some]
      rw [← scrubL_scrub j j cs, scrubL_idem j cs]
   ·refine (hB.forget (x' := x.withBox d w.drew.heap.size arr.size) (p := [j]) (ks := []) (m' := scrubM [j] [] (drop (writes (scrubM [d] [] (dropAll m [d])) [(d, [.arr ks rows2])]) j)) (Ext.refl _ _ _) rfl (fun _ _ h => h) (fun _ _ => rfl) (fun _ _ => rfl) ?_ hB.tok hB.tokslot hB.toktok).congr fun k => ?_
    ·intro k cs hk
     rw [lookup_scrubM, lookup_drop] at hk
     by_cases hkj : k = j
     ·rw [if_pos hkj] at hk; cases hk
     ·rw [if_neg hkj] at hk
      obtain ⟨c0, h0, h1⟩ := Option.map_eq_some_iff.1 hk
      refine ⟨?_, c0, h0, h1.symm⟩
      cases hb2 : mem k [j] with
      |false => rfl
      |true => exact absurd (by simpa using mem_iff.1 hb2) hkj
    ·rw [lookup_move, lookup_scrubM, lookup_drop, lookup_box]
     by_cases hk : k = d
     ·subst hk
      rw [if_pos rfl, if_neg (Ne.symm hjd), if_pos rfl]; rfl
     ·rw [if_neg hk]
      by_cases hkj : k = j
      ·rw [if_pos hkj, if_pos hkj]; rfl
      ·rw [if_neg hkj, if_neg hkj, if_neg hk]
       cases lookup m k with
       |none => rfl
       |some cs => simp only [Option.map_some]; rw [scrubL_scrub]
end Go.Den
namespace Go.Den
variable {x : X} {w : World} {P : Program}

theorem eqK_split : ∀ {k1 k2 : List Kd} {l l' : List AV} {r : Bool}, eqK (k1 ++ k2) l l' = some r → ∃ r1 r2, eqK k1 (l.take k1.length) (l'.take k1.length) = some r1 ∧ eqK k2 (l.drop k1.length) (l'.drop k1.length) = some r2 ∧ r = (r1 && r2)
 |[], k2, l, l', r, h => ⟨true, r, by simp [eqK], by simpa using h, by simp⟩
 |k :: k1, k2, l, l', r, h => by
  simp only [List.cons_append] at h
  unfold eqK at h
  split at h <;> try (cases h; done)
  all_goals
   rename_i heq
  ·cases heq
  ·cases heq
   split at h
   ·rename_i r0 hr0
    obtain ⟨r1, r2, h1, h2, h3⟩ := eqK_split hr0
    cases h
    exact ⟨_, r2, by simp only [List.length_cons, List.take_succ_cons, eqK, h1]; rfl, by simpa using h2, by rw [h3, Bool.and_assoc]⟩
   ·cases h
  ·cases heq
   split at h
   ·rename_i e1
    split at h
    ·rename_i e2
     split at h
     ·rename_i r0 hr0
      obtain ⟨r1, r2, h1, h2, h3⟩ := eqK_split hr0
      cases h
      exact ⟨_, r2, by simp only [List.length_cons, List.take_succ_cons, eqK, h1, if_pos e1, if_pos e2]; rfl, by simpa using h2, by rw [h3, Bool.and_assoc]⟩
     ·cases h
    ·cases h
   ·cases h
  ·cases heq
   split at h
   ·rename_i r0 hr0
    obtain ⟨r1, r2, h1, h2, h3⟩ := eqK_split hr0
    cases h
    exact ⟨_, r2, by simp only [List.length_cons, List.take_succ_cons, eqK, h1]; rfl, by simpa using h2, by rw [h3, Bool.and_assoc]⟩
   ·cases h

theorem run_partAgg {t : TypeId} {n : Nat} (ha : agg? P t = some true) (hn : size? P t = some n) (cs : Array Value) (off : Nat) : (part t cs off).run P w = .ok (.agg (cs.extract off (off + n))) w := by
 simp [part, run_agg ha, run_size hn]
theorem run_partOne {t : TypeId} (ha : agg? P t = some false) (cs : Array Value) (off : Nat) {v : Value} (hv : cs[off]? = some v) : (part t cs off).run P w = .ok v w := by
 simp [part, run_agg ha, hv]

theorem RepL.getElem {l : List AV} {vs : List Value} (h : RepL x l vs) {j : Nat} {a : AV} (ha : l[j]? = some a) : ∃ v, vs[j]? = some v ∧ Rep x a v := h.get ha

def EqSays (P : Program) (x : X) (w : World) (d : Nat) (t : TypeId) (ks : List Kd) : Prop :=
 (agg? P t = some false → ∀ (a b : AV) (u v : Value) (r : Bool), eqK ks [a] [b] = some r → Rep x a u → Rep x b v → (Op.equalIn d t u v).run P w = .ok r w) ∧
 (agg? P t = some true → ∀ (l l' : List AV) (us vs : Array Value) (r : Bool), eqK ks l l' = some r → RepL x l us.toList → RepL x l' vs.toList → (Op.equalIn d t (.agg us) (.agg vs)).run P w = .ok r w)

theorem agg_struct {t : TypeId} {fs : Array Field} (h : P.underlying t = some (.struct fs)) : agg? P t = some true := by unfold agg?; rw [h]

theorem eqK_length : ∀ {ks : List Kd} {l l' : List AV} {r : Bool}, eqK ks l l' = some r → l.length = ks.length ∧ l'.length = ks.length
 |[], l, l', r, h => by
  unfold eqK at h; split at h <;> try (cases h; done)
  all_goals first | exact ⟨rfl, rfl⟩ | (rename_i heq; cases heq)
 |k :: ks, l, l', r, h => by
  unfold eqK at h; split at h <;> try (cases h; done)
  all_goals rename_i heq
  ·cases heq
  ·cases heq; split at h
   ·rename_i h1; have := eqK_length h1; simp [this.1, this.2]
   ·cases h
  ·cases heq; split at h
   ·split at h
    ·split at h
     ·rename_i h1; have := eqK_length h1; simp [this.1, this.2]
     ·cases h
    ·cases h
   ·cases h
  ·cases heq; split at h
   ·rename_i h1; have := eqK_length h1; simp [this.1, this.2]
   ·cases h

theorem eqK_nil {l l' : List AV} {r : Bool} (h : eqK [] l l' = some r) : r = true := by
 have := eqK_length h
 simp only [List.length_nil, List.length_eq_zero_iff] at this
 obtain ⟨rfl, rfl⟩ := this
 simpa [eqK] using h.symm
theorem take_one {l : List AV} {off : Nat} (h : ((l.drop off).take 1).length = 1) : ∃ a, (l.drop off).take 1 = [a] ∧ l[off]? = some a := by
 cases hd : l.drop off with
 |nil => rw [hd] at h; simp at h
 |cons a t =>
  refine ⟨a, by simp, ?_⟩
  have := congrArg (fun l : List AV => l[0]?) hd
  simpa using this

theorem plainFields_sound {g : TypeId → Option (List Kd)} {d : Nat} (hg : ∀ t ks, g t = some ks → EqSays P x w d t ks ∧ ∃ b, agg? P t = some b ∧ (b = false → ks.length = 1)) :
  ∀ {fs : List Field} {off : Nat} {ks : List Kd}, plainFields P g off fs = some ks → ∀ {l l' : List AV} {us vs : Array Value} {r : Bool}, eqK ks (l.drop off) (l'.drop off) = some r → off ≤ l.length → off ≤ l'.length →
   RepL x l us.toList → RepL x l' vs.toList → (Op.eqFields d us vs fs).run P w = .ok r w
 |[], off, ks, h, l, l', us, vs, r, hr, _, _, _, _ => by
  simp only [plainFields, Option.some.injEq] at h; subst h
  rw [eqK_nil hr]; simp [Op.eqFields]
 |f :: fs, off, ks, h, l, l', us, vs, r, hr, ho, ho', hl, hl' => by
  simp only [plainFields] at h
  split at h
  ·rename_i hname
   simp only [Bool.and_eq_true, beq_eq] at hname
   obtain ⟨hn, hoff⟩ := hname
   split at h
   ·rename_i kf hkf
    split at h
    ·rename_i n rest hsz hrest
     split at h
     ·rename_i hnk
      simp only [beq_eq] at hnk
      cases h
      obtain ⟨r1, r2, h1, h2, rfl⟩ := eqK_split hr
      obtain ⟨⟨q1, q2⟩, b, hb, hb1⟩ := hg _ _ hkf
      have hlen := eqK_length h1
      simp only [List.length_take, List.length_drop] at hlen
      have hne : f.name ≠ "_" := by simpa using hn
      have ih := plainFields_sound hg hrest (l := l) (l' := l') (us := us) (vs := vs) (r := r2) (by rw [List.drop_drop, List.drop_drop] at h2; exact h2) (by omega) (by omega) hl hl'
      have heq : ∃ u v, (part f.type us f.offset).run P w = .ok u w ∧ (part f.type vs f.offset).run P w = .ok v w ∧ (Op.equalIn d f.type u v).run P w = .ok r1 w := by
       rw [hoff]
       cases b with
       |true =>
        refine ⟨_, _, run_partAgg hb hsz us off, run_partAgg hb hsz vs off, ?_⟩
        refine q2 hb _ _ _ _ r1 h1 ?_ ?_
        ·rw [hnk]; simpa [Array.toList_extract, List.extract_eq_take_drop] using (hl.drop off).take kf.length
        ·rw [hnk]; simpa [Array.toList_extract, List.extract_eq_take_drop] using (hl'.drop off).take kf.length
       |false =>
        have hk1 := hb1 rfl
        rw [hk1] at h1 hlen
        obtain ⟨a, ha, ha'⟩ := take_one (l := l) (off := off) (by simp only [List.length_take, List.length_drop]; omega)
        obtain ⟨a2, hc, hc'⟩ := take_one (l := l') (off := off) (by simp only [List.length_take, List.length_drop]; omega)
        obtain ⟨u, hu, hru⟩ := hl.get ha'
        obtain ⟨v, hv, hrv⟩ := hl'.get hc'
        rw [Array.getElem?_toList] at hu hv
        rw [ha, hc] at h1
        exact ⟨u, v, run_partOne hb us off hu, run_partOne hb vs off hv, q1 hb a a2 u v r1 h1 hru hrv⟩
      obtain ⟨u, v, p1, p2, p3⟩ := heq
      simp only [Op.eqFields, if_pos hne, Sem.run_bind, p1, p2, p3, Result.andThen_ok]
      cases r1
      ·simp
      ·simpa using ih
     ·cases h
    ·cases h
   ·cases h
  ·cases h

theorem plainKds_sound : ∀ (n : Nat) (t : TypeId) (ks : List Kd), plainKds P n t = some ks → ∀ d, n ≤ d → EqSays P x w d t ks ∧ ∃ b, agg? P t = some b ∧ (b = false → ks.length = 1)
 |0, t, ks, h, _, _ => by simp [plainKds] at h
 |n + 1, t, ks, h, d, hd => by
  obtain ⟨d, rfl⟩ : ∃ d', d = d' + 1 := ⟨d - 1, by omega⟩
  have rep1 : ∀ {z : Value} {u : Value}, Rep x (.dv (.val z)) u → u = z := fun h => by cases h with | dv _ _ h => cases h; rfl
  unfold plainKds at h
  split at h
  ·rename_i hu
   cases h
   have hag : agg? P t = some false := by unfold agg?; rw [hu]
   refine ⟨⟨fun _ a b u v r hr ha hb => ?_, fun hh => by rw [hag] at hh; cases hh⟩, false, hag, fun _ => rfl⟩
   unfold eqK at hr
   split at hr <;> try (cases hr; done)
   all_goals (rename_i h1 h2 h3; first | (cases h1; done) | skip)
   cases h1; cases h2; cases h3
   split at hr
   ·rename_i r0 h0
    cases hr
    rw [eqK_nil h0]
    obtain rfl := rep1 ha; obtain rfl := rep1 hb
    simp [Op.equalIn, run_underlying hu]
   ·cases hr
  ·rename_i k hu
   cases h
   have hag : agg? P t = some false := by unfold agg?; rw [hu]
   refine ⟨⟨fun _ a b u v r hr ha hb => ?_, fun hh => by rw [hag] at hh; cases hh⟩, false, hag, fun _ => rfl⟩
   unfold eqK at hr
   split at hr <;> try (cases hr; done)
   all_goals (rename_i h1 h2 h3; first | (cases h1; done) | skip)
   cases h1; cases h2; cases h3
   split at hr
   ·rename_i e1
    split at hr
    ·rename_i e2
     split at hr
     ·rename_i r0 h0
      cases hr
      rw [eqK_nil h0]
      subst e1; subst e2
      obtain rfl := rep1 ha; obtain rfl := rep1 hb
      simp [Op.equalIn, run_underlying hu]
     ·cases hr
    ·cases hr
   ·cases hr
  ·rename_i hu
   cases h
   have hag : agg? P t = some false := by unfold agg?; rw [hu]
   refine ⟨⟨fun _ a b u v r hr ha hb => ?_, fun hh => by rw [hag] at hh; cases hh⟩, false, hag, fun _ => rfl⟩
   unfold eqK at hr
   split at hr <;> try (cases hr; done)
   all_goals (rename_i h1 h2 h3; first | (cases h1; done) | skip)
   cases h1; cases h2; cases h3
   split at hr
   ·rename_i r0 h0
    cases hr
    rw [eqK_nil h0]
    obtain rfl := rep1 ha; obtain rfl := rep1 hb
    simp [Op.equalIn, run_underlying hu]
   ·cases hr
  ·rename_i fs hu
   split at h
   ·cases h
   ·rename_i hst
    have hag : agg? P t = some true := agg_struct hu
    refine ⟨⟨fun hh => (by rw [hag] at hh; cases hh), fun _ l l' us vs r hr hl hl' => ?_⟩, true, hag, fun hh => (by cases hh)⟩
    have hf : P.fieldsOf t = fs := by simp [Program.fieldsOf, hu]
    rw [run_equalIn_struct (P := P) w d t us vs (by rw [hf]; exact hu) (by simpa using hst), hf]
    exact plainFields_sound (fun t' ks' h' => plainKds_sound n t' ks' h' d (by omega)) h (l := l) (l' := l') (by simpa using hr) (Nat.zero_le _) (Nat.zero_le _) hl hl'
  ·cases h
end Go.Den
namespace Go.Den
variable {x : X} {w : World} {P : Program}

theorem toList_beq (a b : ByteArray) : (a.toList == b.toList) = (a == b) := (beq_toListBytes a b).symm

theorem nilOp_run {op : BinOp} {n : Bool} {r : AV} (h : nilOp op n = some r) : (op = .eql ∧ r = .B n) ∨ (op = .neq ∧ r = .B (!n)) := by
 cases op <;> simp [nilOp] at h
 ·exact .inl ⟨rfl, h.symm⟩
 ·exact .inr ⟨rfl, h.symm⟩

theorem eq_run {op : BinOp} {n : Bool} {r : AV} (h : nilOp op n = some r) {t : TypeId} {ox oy : Operand} {u v : Value}
  (hg : (eqGuard op t ox oy u v).run P w = .ok () w) (he : (Op.equal t u v).run P w = .ok n w)
  (hb : ∀ op, op = .eql ∨ op = .neq → binOp op t u v = if op = .eql then (do pure (.bool (← Op.equal t u v))) else (do pure (.bool (!(← Op.equal t u v))))) (x : X) :
  ∃ z, (do eqGuard op t ox oy u v; binOp op t u v : Sem Value).run P w = .ok z w ∧ Rep x r z := by
 rcases nilOp_run h with ⟨rfl, rfl⟩ | ⟨rfl, rfl⟩
 ·refine ⟨_, ?_, rep_val x rfl⟩
  simp only [Sem.run_bind, hg, Result.andThen_ok, hb _ (.inl rfl), if_true, he, Sem.run_pure]
 ·refine ⟨_, ?_, rep_val x rfl⟩
  simp only [Sem.run_bind, hg, Result.andThen_ok, hb _ (.inr rfl), if_false, he, Sem.run_pure, reduceCtorEq]

theorem eq_bool (d : Nat) {t : TypeId} (ht : P.underlying t = some .bool) (p q : Bool) : (Op.equalIn (d + 1) t (.bool p) (.bool q)).run P w = .ok (p == q) w := by
 simp [Op.equalIn, run_underlying ht]
theorem eq_slice (d : Nat) {t el : TypeId} (ht : P.underlying t = some (.slice el)) (a : Option Addr) (q c : Nat) : (Op.equalIn (d + 1) t (.slice a q c) (.slice none 0 0)).run P w = .ok a.isNone w := by
 cases a <;> simp [Op.equalIn, run_underlying ht]
theorem eq_ptr (d : Nat) {t el : TypeId} (ht : P.underlying t = some (.pointer el)) (a : Addr) : (Op.equalIn (d + 1) t (.pointer (some a)) (.pointer none)).run P w = .ok false w := by
 simp [Op.equalIn, run_underlying ht]
theorem eq_fn (d : Nat) {t : TypeId} {p1 p2 : Array TypeId} {p3 : Bool} (ht : P.underlying t = some (.func p1 p2 p3)) (f : Fn) (a b : Array Value) : (Op.equalIn (d + 1) t (.func f a b) .nilFunc).run P w = .ok false w := by
 simp [Op.equalIn, run_underlying ht]
theorem eq_ifc (d : Nat) {t : TypeId} {ms : Array (String × TypeId)} (ht : P.underlying t = some (.interface ms)) (ty : TypeId) (z : Value) : (Op.equalIn (d + 1) t (.iface ty z) .nilIface).run P w = .ok false w := by
 simp [Op.equalIn, run_underlying ht]

theorem eq_nifc (d : Nat) {t : TypeId} {ms : Array (String × TypeId)} (ht : P.underlying t = some (.interface ms)) : (Op.equalIn (d + 1) t .nilIface .nilIface).run P w = .ok true w := by
 simp [Op.equalIn, run_underlying ht]
theorem guard_nifc (d : Nat) {t : TypeId} (ht : P.underlying t = some (.interface #[])) : (Op.eqGuardIn (d + 1) t .nilIface .nilIface).run P w = .ok false w := by
 simp [Op.eqGuardIn, run_underlying ht]
theorem eq_nfn (d : Nat) {t : TypeId} {p1 p2 : Array TypeId} {p3 : Bool} (ht : P.underlying t = some (.func p1 p2 p3)) : (Op.equalIn (d + 1) t .nilFunc .nilFunc).run P w = .ok true w := by
 simp [Op.equalIn, run_underlying ht]
theorem eq_nptr (d : Nat) {t el : TypeId} (ht : P.underlying t = some (.pointer el)) : (Op.equalIn (d + 1) t (.pointer none) (.pointer none)).run P w = .ok true w := by
 simp [Op.equalIn, run_underlying ht]
theorem eq_ptrs (d : Nat) {t el : TypeId} {n : Nat} (ht : P.underlying t = some (.pointer el)) (hn : size? P el = some n) (b o : Nat) : (Op.equalIn (d + 1) t (.pointer (some ⟨b, o, none⟩)) (.pointer (some ⟨b, o, none⟩))).run P w = .ok true w := by
 simp [Op.equalIn, run_underlying ht, run_size hn, sameAddr]

theorem bin_sound {op : BinOp} {t : TypeId} {av bv : AV} {r : AV} (h : binE P op t av bv = some r) {u v : Value} (hu : Rep x av u) (hv : Rep x bv v) (ox oy : Operand) :
  ∃ z, (do eqGuard op t ox oy u v; binOp op t u v : Sem Value).run P w = .ok z w ∧ Rep x r z := by
 unfold binE at h
 split at h
 ·rename_i k p j q
  obtain rfl := Rep.val hu; obtain rfl := Rep.val hv
  split at h
  ·rename_i hk; subst hk
   cases op <;> simp only [arith, Option.some.injEq, reduceCtorEq] at h <;> subst h <;>
    exact ⟨_, by simp [eqGuard, binOp, Op.intArith, Op.intCmp, Op.intBits]; done, rep_val x rfl⟩
  ·cases h
 ·rename_i p q
  obtain rfl := Rep.val hu; obtain rfl := Rep.val hv
  cases op <;> simp only [strOp, Option.some.injEq, reduceCtorEq] at h <;> subst h <;>
   exact ⟨_, by simp [eqGuard, binOp, Op.stringOp, toList_beq]; done, rep_val x rfl⟩
 ·rename_i p q
  obtain rfl := Rep.val hu; obtain rfl := Rep.val hv
  split at h
  ·rename_i ht
   refine eq_run h (by rcases nilOp_run h with ⟨rfl, _⟩ | ⟨rfl, _⟩ <;> simp [eqGuard]) ?_ ?_ x
   ·exact eq_bool 9999 ht p q
   ·rintro op (rfl | rfl) <;> simp [binOp]
  ·cases h
 ·rename_i l l'
  split at h
  ·rename_i fs ks hfs hks
   split at h
   ·cases h
   ·rename_i hg
    split at h
    ·rename_i r0 hr0
     cases hu with | agg _ us hu => ?_
     cases hv with | agg _ vs hv => ?_
     have hag : agg? P t = some true := agg_struct hfs
     obtain ⟨⟨_, q2⟩, _⟩ := plainKds_sound (x := x) (w := w) 9 t ks hks Op.maxDepth (by simp [Op.maxDepth])
     have he := q2 hag l l' ⟨us⟩ ⟨vs⟩ r0 hr0 hu hv
     refine eq_run h ?_ he ?_ x
     ·rcases nilOp_run h with ⟨rfl, _⟩ | ⟨rfl, _⟩ <;> simp [eqGuard, hg]
     ·rintro op (rfl | rfl) <;> simp [binOp]
    ·cases h
  ·cases h
 ·rename_i n ks rows r0 ks'
  split at h
  ·rename_i el ht
   cases hu with | sl _ _ _ _ _ hu _ => ?_
   cases hv with | sl _ _ _ _ _ hv _ => ?_
   have hv' : v = .slice none 0 0 := by
    rcases hv.rows with ⟨_, _, rfl⟩ | ⟨_, _, h1, _⟩
    ·rfl
    ·cases h1
   subst hv'
   have hu' : ∃ a q c, u = .slice a q c ∧ n = a.isNone := by
    rcases hu.rows with ⟨h1, _, rfl⟩ | ⟨a, c, h1, rfl, _⟩
    ·exact ⟨none, 0, 0, rfl, h1⟩
    ·exact ⟨some a, _, c, rfl, h1⟩
   obtain ⟨a, q, c, rfl, rfl⟩ := hu'
   refine eq_run h (by rcases nilOp_run h with ⟨rfl, _⟩ | ⟨rfl, _⟩ <;> simp [eqGuard]) ?_ ?_ x
   ·exact eq_slice 9999 ht a q c
   ·rintro op (rfl | rfl) <;> simp [binOp]
  ·cases h
 ·rename_i k ks' off n c ks0
  split at h
  ·rename_i el ht
   cases hv with | sl _ _ _ _ _ hv _ => ?_
   have hv' : v = .slice none 0 0 := by
    rcases hv.rows with ⟨_, _, rfl⟩ | ⟨_, _, h1, _⟩
    ·rfl
    ·cases h1
   subst hv'
   cases hu with | ms _ _ _ _ _ b o c' hb _ _ _ => ?_
   refine eq_run h (by rcases nilOp_run h with ⟨rfl, _⟩ | ⟨rfl, _⟩ <;> simp [eqGuard]) ?_ ?_ x
   ·exact eq_slice 9999 ht (some _) _ _
   ·rintro op (rfl | rfl) <;> simp [binOp]
  ·cases h
 ·rename_i k off
  split at h
  ·rename_i el ht hof
   obtain rfl := Rep.val hv
   cases hu with | pl _ _ b hb => ?_
   rw [ptrV_ptr hof]
   refine eq_run h (by rcases nilOp_run h with ⟨rfl, _⟩ | ⟨rfl, _⟩ <;> simp [eqGuard]) ?_ ?_ x
   ·exact eq_ptr 9999 ht _
   ·rintro op (rfl | rfl) <;> simp [binOp]
  ·cases h
 ·rename_i kd row off
  split at h
  ·rename_i el ht
   obtain rfl := Rep.val hv
   cases hu with | pv _ _ _ b o _ _ _ => ?_
   refine eq_run h (by rcases nilOp_run h with ⟨rfl, _⟩ | ⟨rfl, _⟩ <;> simp [eqGuard]) ?_ ?_ x
   ·exact eq_ptr 9999 ht _
   ·rintro op (rfl | rfl) <;> simp [binOp]
  ·cases h
 ·rename_i f cs
  split at h
  ·rename_i p1 p2 p3 ht
   obtain rfl := Rep.val hv
   cases hu with | fn _ _ vs _ => ?_
   refine eq_run h (by rcases nilOp_run h with ⟨rfl, _⟩ | ⟨rfl, _⟩ <;> simp [eqGuard]) ?_ ?_ x
   ·exact eq_fn 9999 ht _ _ _
   ·rintro op (rfl | rfl) <;> simp [binOp]
  ·cases h
 ·rename_i ty a
  split at h
  ·rename_i ms ht
   obtain rfl := Rep.val hv
   cases hu with | ifc _ _ z hz => ?_
   refine eq_run h (by rcases nilOp_run h with ⟨rfl, _⟩ | ⟨rfl, _⟩ <;> simp [eqGuard]) ?_ ?_ x
   ·exact eq_ifc 9999 ht _ _
   ·rintro op (rfl | rfl) <;> simp [binOp]
  ·cases h
 ·obtain rfl := Rep.val hu; obtain rfl := Rep.val hv
  split at h
  ·rename_i ms ht
   split at h
   ·rename_i hms
    have hms' : ms = #[] := by cases ms; simp at hms; simp [hms]
    subst hms'
    have hg : (Op.eqGuardIn Op.maxDepth t .nilIface .nilIface).run P w = .ok false w := guard_nifc 9999 ht
    refine eq_run h ?_ (eq_nifc 9999 ht) ?_ x
    ·rcases nilOp_run h with ⟨rfl, _⟩ | ⟨rfl, _⟩ <;> simp [eqGuard, hg]
    ·rintro op (rfl | rfl) <;> simp [binOp]
   ·cases h
  ·cases h
 ·obtain rfl := Rep.val hu; obtain rfl := Rep.val hv
  split at h
  ·rename_i p1 p2 p3 ht
   refine eq_run h (by rcases nilOp_run h with ⟨rfl, _⟩ | ⟨rfl, _⟩ <;> simp [eqGuard]) ?_ ?_ x
   ·exact eq_nfn 9999 ht
   ·rintro op (rfl | rfl) <;> simp [binOp]
  ·cases h
 ·obtain rfl := Rep.val hu; obtain rfl := Rep.val hv
  split at h
  ·rename_i el ht
   refine eq_run h (by rcases nilOp_run h with ⟨rfl, _⟩ | ⟨rfl, _⟩ <;> simp [eqGuard]) ?_ ?_ x
   ·exact eq_nptr 9999 ht
   ·rintro op (rfl | rfl) <;> simp [binOp]
  ·cases h
 ·rename_i k off k' off'
  split at h
  ·rename_i el ht
   split at h
   ·rename_i n hn hkk
    simp only [Bool.and_eq_true, beq_eq, Bool.not_eq_true'] at hkk
    obtain ⟨⟨rfl, rfl⟩, hof⟩ := hkk
    cases hu with | pl _ _ b hb => ?_
    cases hv with | pl _ _ b' hb' => ?_
    rw [hb] at hb'
    obtain rfl := Option.some.inj hb'
    rw [ptrV_ptr hof]
    refine eq_run h (by rcases nilOp_run h with ⟨rfl, _⟩ | ⟨rfl, _⟩ <;> simp [eqGuard]) ?_ ?_ x
    ·exact eq_ptrs 9999 ht hn _ _
    ·rintro op (rfl | rfl) <;> simp [binOp]
   ·cases h
  ·cases h
 ·cases h
end Go.Den
namespace Go.Den

theorem lookup_zipExt : ∀ (ext : List (List AV)) (i k : Nat), lookup (zipExt i ext) k = if i ≤ k then ext[k - i]? else none
 |[], i, k => by simp [zipExt, lookup]
 |cs :: ext, i, k => by
  simp only [zipExt, lookup, beq_eq, lookup_zipExt ext (i + 1) k]
  by_cases h : i = k
  ·subst h; simp
  ·by_cases h2 : i ≤ k
   ·have h3 : i + 1 ≤ k := by omega
    simp only [if_neg h, if_pos h2, if_pos h3]
    have : k - i = (k - (i + 1)) + 1 := by omega
    rw [this]; simp
   ·have h3 : ¬ i + 1 ≤ k := by omega
    simp only [if_neg h, if_neg h2, if_neg h3]

theorem index_get : ∀ {ks : List Nat} {k : Nat}, mem k ks = true → ks[index k ks]? = some k
 |[], k, h => by simp [mem] at h
 |j :: ks, k, h => by
  simp only [mem, Bool.or_eq_true, beq_eq] at h
  simp only [index, beq_eq]
  by_cases hj : j = k
  ·simp [hj]
  ·rw [if_neg hj]
   simpa using index_get (h.resolve_left hj)

theorem dedup_mem : ∀ {l : List Nat} {k : Nat}, mem k (dedup l) = true ↔ mem k l = true
 |[], k => Iff.rfl
 |j :: l, k => by
  simp only [dedup]
  split
  ·rename_i h
   rw [dedup_mem]
   simp only [mem, Bool.or_eq_true, beq_eq]
   constructor
   ·exact .inr
   ·rintro (rfl | h')
    ·exact dedup_mem.1 h
    ·exact h'
  ·simp only [mem, Bool.or_eq_true, dedup_mem]
theorem dedup_nodup : ∀ (l : List Nat), (dedup l).Nodup
 |[] => List.nodup_nil
 |j :: l => by
  simp only [dedup]
  split
  ·exact dedup_nodup l
  ·rename_i h
   exact List.nodup_cons.2 ⟨fun hm => h (mem_iff.2 hm), dedup_nodup l⟩

theorem cellsOf_get {m : Mem} {qs : List Nat} : ∀ {ks : List Nat} {ext : List (List AV)}, cellsOf m qs ks = some ext → ext.length = ks.length ∧ ∀ (i k : Nat), ks[i]? = some k → ∃ cs, lookup m k = some cs ∧ ext[i]? = some (AV.passL qs cs)
 |[], ext, h => by simp only [cellsOf, Option.some.injEq] at h; subst h; simp
 |k :: ks, ext, h => by
  simp only [cellsOf] at h
  split at h
  ·rename_i cs hcs
   split at h
   ·rename_i r hr
    cases h
    obtain ⟨h1, h2⟩ := cellsOf_get hr
    refine ⟨by simp [h1], ?_⟩
    intro i j hj
    cases i with
    |zero => simp at hj; subst hj; exact ⟨cs, hcs, rfl⟩
    |succ i => simpa using h2 i j (by simpa using hj)
   ·cases h
  ·cases h

def X.callee (x : X) (ks : List Nat) : X := { M := x.M, loc := fun k => if 1000 ≤ k then (ks[k - 1000]?).bind x.loc else none, tk := fun _ => none, cap := fun k => if 1000 ≤ k then ((ks[k - 1000]?).map x.cap).getD 0 else 0, M0 := x.M }

mutual
theorem Rep.pass {x : X} {ks : List Nat} : ∀ {a v}, Rep x a v → Rep (x.callee ks) (AV.pass ks a) v
 |_, _, .dv d v h => by unfold AV.pass; exact .dv d v h
 |_, _, .sl n kd rows r v h hr => by
  unfold AV.pass
  refine .sl n kd rows _ v h ?_
  cases r with
  |no => trivial
  |ex => exact hr
  |tok k => trivial
  |old => trivial
 |_, _, .agg cs vs h => by unfold AV.pass; exact .agg _ vs (RepL.pass h)
 |_, _, .tup cs vs h => by unfold AV.pass; exact .junk _
 |_, _, .pl k off b h => by
  unfold AV.pass
  by_cases hm : mem k ks = true
  ·rw [if_pos hm]
   refine .pl _ _ _ ?_
   simp only [X.callee]
   rw [if_pos (by omega), Nat.add_sub_cancel_left, index_get hm]; exact h
  ·rw [if_neg hm]; exact .junk _
 |_, _, .pv kd row off b o h1 h2 _ => by unfold AV.pass; exact .pv kd row off b o h1 h2 (fun _ => h2)
 |_, _, .fn f cs vs h => by unfold AV.pass; exact .fn f _ vs (RepL.pass h)
 |_, _, .ifc t a v h => by unfold AV.pass; exact .ifc t _ v (Rep.pass h)
 |_, _, .ms k kd off n c b o c' h g1 g2 g3 => by
  unfold AV.pass
  by_cases hm : mem k ks = true
  ·rw [if_pos hm]
   have hcap : (x.callee ks).cap (1000 + index k ks) = x.cap k := by
    simp only [X.callee]
    rw [if_pos (by omega), Nat.add_sub_cancel_left, index_get hm]; rfl
   refine .ms _ _ _ _ _ _ _ _ ?_ g1 g2 (by rw [hcap]; exact g3)
   simp only [X.callee]
   rw [if_pos (by omega), Nat.add_sub_cancel_left, index_get hm]; exact h
  ·rw [if_neg hm]; exact .junk _
 |_, _, .pa k kd i j b h => by
  unfold AV.pass
  by_cases hm : mem k ks = true
  ·rw [if_pos hm]
   refine .pa _ _ _ _ _ ?_
   simp only [X.callee]
   rw [if_pos (by omega), Nat.add_sub_cancel_left, index_get hm]; exact h
  ·rw [if_neg hm]; exact .junk _
 |_, _, .junk v => by unfold AV.pass; exact .junk v
theorem RepL.pass {x : X} {ks : List Nat} : ∀ {l vs}, RepL x l vs → RepL (x.callee ks) (AV.passL ks l) vs
 |_, _, .nil => by unfold AV.passL; exact .nil
 |_, _, .cons a v l vs ha hl => by unfold AV.passL; exact .cons _ _ _ _ (Rep.pass ha) (RepL.pass hl)
end

structure Back (x xc x' : X) (ks : List Nat) (d : Nat) : Prop where
 M : x'.M = xc.M
 loc : ∀ k b j, 1000 ≤ k → xc.loc k = some b → ks[k - 1000]? = some j → x'.loc j = some b
 tk : ∀ i z, i < 8 → xc.tk i = some z → x'.tk (1000 + 8 * d + i) = some z
 cap : ∀ k j, 1000 ≤ k → ks[k - 1000]? = some j → x'.cap j = xc.cap k

mutual
theorem Rep.back {x xc x' : X} {ks : List Nat} {d : Nat} (h : Back x xc x' ks d) : ∀ {a v}, Rep xc a v → Rep x' (AV.back ks d a) v
 |_, _, .dv q v hd => by unfold AV.back; exact .dv q v (by rw [h.M]; exact hd)
 |_, _, .sl n kd rows r v hd hr => by
  cases r with
  |no => simp only [AV.back]; exact .sl n kd rows _ v (by rw [h.M]; exact hd) trivial
  |ex => simp only [AV.back]; exact .sl n kd rows _ v (by rw [h.M]; exact hd) hr
  |old => simp only [AV.back]; exact .sl n kd rows _ v (by rw [h.M]; exact hd) trivial
  |tok i =>
   simp only [AV.back]
   refine .sl n kd rows _ v (by rw [h.M]; exact hd) ?_
   by_cases hi : i < 8
   ·have : Nat.blt i 8 = true := by simpa using hi
    rw [if_pos this]; exact h.tk i _ hi hr
   ·have : ¬ Nat.blt i 8 = true := by simpa using hi
    rw [if_neg this]; trivial
 |_, _, .agg cs vs hl => by unfold AV.back; exact .agg _ vs (RepL.back h hl)
 |_, _, .tup cs vs hl => by unfold AV.back; exact .tup _ vs (RepL.back h hl)
 |_, _, .pl k off b hk => by
  simp only [AV.back]
  split
  ·rename_i hle
   simp only [Nat.ble_eq] at hle
   split
   ·rename_i j hj; exact .pl j off b (h.loc k b j hle hk hj)
   ·exact .junk _
  ·exact .junk _
 |_, _, .pv kd row off b o h1 h2 _ => by unfold AV.back; have := Rep.pv (x := x') kd row (pvOff off) b o h1 (by rw [h.M]; exact h2) (by rw [isOld_pvOff]; intro hh; cases hh); rwa [pvOff_idem] at this
 |_, _, .fn f cs vs hl => by unfold AV.back; exact .fn f _ vs (RepL.back h hl)
 |_, _, .ifc t a v ha => by unfold AV.back; exact .ifc t _ v (Rep.back h ha)
 |_, _, .ms k kd off n c b o c' hk g1 g2 g3 => by
  simp only [AV.back]
  split
  ·rename_i hle
   simp only [Nat.ble_eq] at hle
   split
   ·rename_i j hj; exact .ms j kd off n c b o c' (h.loc k b j hle hk hj) g1 g2 (by rw [h.cap k j hle hj]; exact g3)
   ·exact .junk _
  ·exact .junk _
 |_, _, .pa k kd i q b hk => by
  simp only [AV.back]
  split
  ·rename_i hle
   simp only [Nat.ble_eq] at hle
   split
   ·rename_i j hj; exact .pa j kd i q b (h.loc k b j hle hk hj)
   ·exact .junk _
  ·exact .junk _
 |_, _, .junk v => by unfold AV.back; exact .junk v
theorem RepL.back {x xc x' : X} {ks : List Nat} {d : Nat} (h : Back x xc x' ks d) : ∀ {l vs}, RepL xc l vs → RepL x' (AV.backL ks d l) vs
 |_, _, .nil => by unfold AV.backL; exact .nil
 |_, _, .cons a v l vs ha hl => by unfold AV.backL; exact .cons _ _ _ _ (Rep.back h ha) (RepL.back h hl)
end

theorem backL_map (ks : List Nat) (d : Nat) : ∀ l, AV.backL ks d l = l.map (AV.back ks d)
 |[] => rfl
 |a :: l => by simp [AV.backL, backL_map ks d l]
theorem passL_map (ks : List Nat) : ∀ l, AV.passL ks l = l.map (AV.pass ks)
 |[] => rfl
 |a :: l => by simp [AV.passL, passL_map ks l]
theorem MpMap.back (ks : List Nat) (d : Nat) : MpMap (AV.back ks d) where
 tag ag := by cases ag <;> rfl
 arr ks' rows := ⟨rows, rfl⟩
 flat ks' rows _ := rfl
 tag' a ag h := by
  cases a with
  |sl n kd rows r => cases r <;> cases ag <;> simp only [AV.back, mpTag] at h <;> cases h
  |dv d => simpa only [AV.back] using h
  |pl k off => simp only [AV.back] at h; cases ag <;> (split at h <;> first | (split at h <;> cases h) | cases h)
  |ms k kd off n c => simp only [AV.back] at h; cases ag <;> (split at h <;> first | (split at h <;> cases h) | cases h)
  |pa k kd i q => simp only [AV.back] at h; cases ag <;> (split at h <;> first | (split at h <;> cases h) | cases h)
  |_ => cases ag <;> simp only [AV.back, mpTag] at h <;> cases h
 arr' a ks' rows h := by
  cases a with
  |sl n kd rows r => cases r <;> simp only [AV.back] at h <;> cases h
  |pl k off => simp only [AV.back] at h; (split at h <;> first | (split at h <;> cases h) | cases h)
  |ms k kd off n c => simp only [AV.back] at h; (split at h <;> first | (split at h <;> cases h) | cases h)
  |pa k kd i q => simp only [AV.back] at h; (split at h <;> first | (split at h <;> cases h) | cases h)
  |arr kd rows => simp only [AV.back] at h; exact ⟨_, h⟩
  |junk => cases h
  |_ => simp only [AV.back] at h; cases h
theorem MpMap.pass (ks : List Nat) : MpMap (AV.pass ks) where
 tag ag := by cases ag <;> rfl
 arr ks' rows := ⟨rows, rfl⟩
 flat ks' rows _ := rfl
 tag' a ag h := by cases a <;> cases ag <;> simp only [AV.pass, mpTag] at h <;> first | exact h | (cases h; done) | (split at h <;> cases h)
 arr' a ks' rows h := by
  cases a with
  |arr kd rows => simp only [AV.pass] at h; exact ⟨_, h⟩
  |pl k off => simp only [AV.pass] at h; split at h <;> cases h
  |ms k kd off n c => simp only [AV.pass] at h; split at h <;> cases h
  |pa k kd i q => simp only [AV.pass] at h; split at h <;> cases h
  |junk => cases h
  |tup l => cases h
  |_ => simp only [AV.pass] at h; cases h
theorem Cont.back {x xc x' : X} {ks : List Nat} {d : Nat} (h : Back x xc x' ks d) {cs : List AV} {l : List Value} (hc : Cont xc cs l) : Cont x' (AV.backL ks d cs) l := by
 rcases hc with hc | ⟨kd, rows, rfl, hc⟩ | ⟨ag, kd, rows, rfl, hc⟩
 ·exact .inl (hc.back h)
 ·exact .inr (.inl ⟨kd, rows, by simp [AV.backL, AV.back], by rw [h.M]; exact hc⟩)
 ·rw [backL_map]; exact Cont.mpMap (x := x) (MpMap.back ks d) hc
theorem Cont.pass {x : X} {ks : List Nat} {cs : List AV} {l : List Value} (hc : Cont x cs l) : Cont (x.callee ks) (AV.passL ks cs) l := by
 rcases hc with hc | ⟨kd, rows, rfl, hc⟩ | ⟨ag, kd, rows, rfl, hc⟩
 ·exact .inl hc.pass
 ·exact .inr (.inl ⟨kd, rows, by simp [AV.passL, AV.pass], hc⟩)
 ·rw [passL_map]; exact Cont.mpMap (x := x) (MpMap.pass ks) hc
theorem isMp_back (ks : List Nat) (d : Nat) (cs : List AV) : isMp (AV.backL ks d cs) = isMp cs := by rw [backL_map]; exact (MpMap.back ks d).isMp cs
theorem isMp_pass (ks : List Nat) (cs : List AV) : isMp (AV.passL ks cs) = isMp cs := by rw [passL_map]; exact (MpMap.pass ks).isMp cs

mutual
theorem Rep.passT {x : X} {ks : List Nat} (tk : Nat → Option (Value × List Kd)) : ∀ {a v}, Rep x a v → Rep { x.callee ks with tk := tk } (AV.pass ks a) v
 |_, _, .dv d v h => by unfold AV.pass; exact .dv d v h
 |_, _, .sl n kd rows r v h hr => by
  unfold AV.pass
  refine .sl n kd rows _ v h ?_
  cases r with
  |no => trivial
  |ex => exact hr
  |tok k => trivial
  |old => trivial
 |_, _, .agg cs vs h => by unfold AV.pass; exact .agg _ vs (RepL.passT tk h)
 |_, _, .tup cs vs h => by unfold AV.pass; exact .junk _
 |_, _, .pl k off b h => by
  have := Rep.pass (ks := ks) (.pl k off b h)
  unfold AV.pass at this ⊢
  by_cases hm : mem k ks = true
  ·rw [if_pos hm] at this ⊢; obtain ⟨b', h1, h2⟩ := this.pl_inv; rw [ptrV_inj h2]; exact .pl _ _ _ h1
  ·rw [if_neg hm]; exact .junk _
 |_, _, .pv kd row off b o h1 h2 _ => by unfold AV.pass; exact .pv kd row off b o h1 h2 (fun _ => h2)
 |_, _, .fn f cs vs h => by unfold AV.pass; exact .fn f _ vs (RepL.passT tk h)
 |_, _, .ifc t a v h => by unfold AV.pass; exact .ifc t _ v (Rep.passT tk h)
 |_, _, .ms k kd off n c b o c' h g1 g2 g3 => by
  have := Rep.pass (ks := ks) (.ms k kd off n c b o c' h g1 g2 g3)
  unfold AV.pass at this ⊢
  by_cases hm : mem k ks = true
  ·rw [if_pos hm] at this ⊢; cases this with | ms _ _ _ _ _ _ _ _ h1 h2 h3 h4 => exact .ms _ _ _ _ _ _ _ _ h1 h2 h3 h4
  ·rw [if_neg hm]; exact .junk _
 |_, _, .pa k kd i j b h => by
  have := Rep.pass (ks := ks) (.pa k kd i j b h)
  unfold AV.pass at this ⊢
  by_cases hm : mem k ks = true
  ·rw [if_pos hm] at this ⊢; cases this with | pa _ _ _ _ _ h => exact .pa _ _ _ _ _ h
  ·rw [if_neg hm]; exact .junk _
 |_, _, .junk v => by unfold AV.pass; exact .junk v
theorem RepL.passT {x : X} {ks : List Nat} (tk : Nat → Option (Value × List Kd)) : ∀ {l vs}, RepL x l vs → RepL { x.callee ks with tk := tk } (AV.passL ks l) vs
 |_, _, .nil => by unfold AV.passL; exact .nil
 |_, _, .cons a v l vs ha hl => by unfold AV.passL; exact .cons _ _ _ _ (Rep.passT tk ha) (RepL.passT tk hl)
end
theorem Cont.passT {x : X} {ks : List Nat} (tk : Nat → Option (Value × List Kd)) {cs : List AV} {l : List Value} (hc : Cont x cs l) : Cont { x.callee ks with tk := tk } (AV.passL ks cs) l := by
 rcases hc with hc | ⟨kd, rows, rfl, hc⟩ | ⟨ag, kd, rows, rfl, hc⟩
 ·exact .inl (hc.passT tk)
 ·exact .inr (.inl ⟨kd, rows, by simp [AV.passL, AV.pass], hc⟩)
 ·rw [passL_map]; exact Cont.mpMap (x := x) (MpMap.pass ks) hc

theorem VirMap.back (ks : List Nat) (d : Nat) : VirMap (AV.back ks d) where
 a a h := by
  cases a with
  |sl n kd rows r => cases r <;> simp [AV.back] at h
  |_ => simp only [AV.back] at h <;> first | exact h | (split at h <;> first | (split at h <;> cases h) | cases h) | cases h
 b a r h := by
  cases a with
  |sl n kd rows r' => cases r' <;> simp only [AV.back] at h <;> cases h <;> exact ⟨_, rfl⟩
  |_ => simp only [AV.back] at h <;> first | (split at h <;> first | (split at h <;> cases h) | cases h) | cases h
 c a v h := by
  cases a with
  |sl n kd rows r => cases r <;> simp [AV.back] at h
  |_ => simp only [AV.back] at h <;> first | exact h | (split at h <;> first | (split at h <;> cases h) | cases h) | cases h
theorem virgin_back {ks : List Nat} {d : Nat} {cs : List AV} (h : virgin (AV.backL ks d cs) = true) : virgin cs = true := (VirMap.back ks d).map (by rwa [backL_map] at h)
theorem VirMap.pass (ks : List Nat) : VirMap (AV.pass ks) where
 a a h := by cases a <;> simp only [AV.pass] at h <;> first | exact h | (split at h <;> cases h) | cases h
 b a r h := by cases a <;> simp only [AV.pass] at h <;> first | (cases h; exact ⟨_, rfl⟩) | (split at h <;> cases h) | cases h
 c a v h := by cases a <;> simp only [AV.pass] at h <;> first | exact h | (split at h <;> cases h) | cases h
theorem virgin_pass {ks : List Nat} {cs : List AV} (h : virgin (AV.passL ks cs) = true) : virgin cs = true := (VirMap.pass ks).map (by rwa [passL_map] at h)
theorem VirMap.bare : VirMap AV.bare where
 a a h := by cases a <;> simp only [AV.bare] at h <;> first | exact h | cases h
 b a r h := by cases a <;> simp only [AV.bare] at h <;> first | (cases h; exact ⟨_, rfl⟩) | cases h
 c a v h := by cases a <;> simp only [AV.bare] at h <;> first | exact h | cases h
theorem bareL_map : ∀ l, AV.bareL l = l.map AV.bare
 |[] => rfl
 |a :: l => by simp [AV.bareL, bareL_map l]
theorem MpMap.bare : MpMap AV.bare where
 tag ag := by cases ag <;> rfl
 arr ks' rows := ⟨rows, rfl⟩
 flat ks' rows _ := rfl
 tag' a ag h := by
  cases a with
  |dv d => simpa only [AV.bare] using h
  |_ => cases ag <;> simp only [AV.bare, mpTag] at h <;> cases h
 arr' a ks' rows h := by
  cases a with
  |arr kd rows => simp only [AV.bare] at h; exact ⟨_, h⟩
  |_ => simp only [AV.bare] at h; cases h
theorem virgin_bare {cs : List AV} (h : virgin (AV.bareL cs) = true) : virgin cs = true := VirMap.bare.map (by rwa [bareL_map] at h)
theorem isMp_bare (cs : List AV) : isMp (AV.bareL cs) = isMp cs := by rw [bareL_map]; exact MpMap.bare.isMp cs
theorem lookup_zipW (ks : List Nat) (d : Nat) : ∀ (l : List Nat) (ext : List (List AV)) (m : Mem), ext.length = l.length → l.Nodup →
  (∀ k, k ∉ l → lookup (writes m (zipW ks d l ext)) k = lookup m k) ∧ ∀ (i k : Nat), l[i]? = some k → ∃ cs, ext[i]? = some cs ∧ lookup (writes m (zipW ks d l ext)) k = some (AV.backL ks d cs)
 |[], ext, m, h, _ => by
  have : ext = [] := List.eq_nil_of_length_eq_zero h
  subst this
  simp [zipW, writes]
 |j :: l, [], m, h, _ => by simp at h
 |j :: l, cs :: ext, m, h, hn => by
  obtain ⟨hj, hn⟩ := List.nodup_cons.1 hn
  obtain ⟨h1, h2⟩ := lookup_zipW ks d l ext (write m j (AV.backL ks d cs)) (by simpa using h) hn
  simp only [zipW, writes]
  constructor
  ·intro k hk
   simp only [List.mem_cons, not_or] at hk
   rw [h1 k hk.2, lookup_write, if_neg hk.1]
  ·intro i k hk
   cases i with
   |zero =>
    simp at hk; subst hk
    exact ⟨cs, rfl, by rw [h1 j hj, lookup_write, if_pos rfl]⟩
   |succ i => simpa using h2 i k (by simpa using hk)

theorem Inv.behind {e : Env} {x xc : X} {w w' : World} {m : Mem} (h : Inv e x w m) {ks : List Nat} (hks : ks.Nodup) {ext ext' : List (List AV)} (hcells : cellsOf m ks ks = some ext) (hlen : ext'.length = ext.length)
  {E : List Nat} (hE : ∀ b, b ∈ E → ∃ k cs, lookup m k = some cs ∧ x.loc k = some b ∧ k ∈ ks)
  {ktk : Nat → Option (Value × List Kd)} {L : List Nat} (hc : Inv ⟨e.P, w, { x.callee ks with tk := ktk }, E, [], L⟩ xc w' (zipExt 1000 ext')) (d : Nat) (str : List Nat) (tk' : Nat → Option (Value × List Kd))
  (hnew : ∀ j z, tk' j = some z → (mem j str = true ∧ ∃ i, xc.tk i = some z ∧ j = 1000 + 8 * d + i) ∨ (mem j str = false ∧ x.tk j = some z)) 
  (hkeep : ∀ j z, mem j str = false → x.tk j = some z → tk' j = some z) (hback : ∀ i z, i < 8 → xc.tk i = some z → tk' (1000 + 8 * d + i) = some z )
  (hL : ∀ b, b ∈ L → ∃ j a n c sz, b = a.block ∧ mem j str = true ∧ x.tk j = some (.slice (some a) n c, sz) ∧ 0 < c) :
  Inv e { M := xc.M, loc := x.loc, tk := tk', cap := x.cap, M0 := x.M0 } w' (writes (scrubM [] str m) (zipW ks d ks ext')) ∧ Ext x { M := xc.M, loc := x.loc, tk := tk', cap := x.cap, M0 := x.M0 } [] str ∧ Back x xc { M := xc.M, loc := x.loc, tk := tk', cap := x.cap, M0 := x.M0 } ks d := by
 obtain ⟨hl1, hget⟩ := cellsOf_get hcells
 obtain ⟨hz1, hz2⟩ := lookup_zipW ks d ks ext' (scrubM [] str m) (by omega) hks
 have hext : Ext x { M := xc.M, loc := x.loc, tk := tk', cap := x.cap, M0 := x.M0 } [] str := ⟨hc.mono, fun _ _ _ h => h, hkeep, fun _ _ => rfl, rfl⟩
 have hloc : ∀ k b j, 1000 ≤ k → xc.loc k = some b → ks[k - 1000]? = some j → x.loc j = some b := by
  intro k b j hk hb hj
  have := hc.ext k hk
  simp only [X.callee, if_pos hk, hj, Option.bind_some] at this
  rw [← this]; exact hb
 have hbk : Back x xc { M := xc.M, loc := x.loc, tk := tk', cap := x.cap, M0 := x.M0 } ks d := ⟨rfl, hloc, hback, fun k j hk hj => by
  have := hc.more.ext k hk
  simp only [X.callee, if_pos hk, hj, Option.map_some, Option.getD_some] at this
  exact this.symm⟩
 have hLslot : ∀ b, b ∈ L → ∀ k cs, lookup m k = some cs → x.loc k ≠ some b := by
  intro b hb k cs hk
  obtain ⟨j, a, n, c, sz, rfl, _, hj, hpos⟩ := hL b hb
  exact h.tokslot j a n c sz k cs hj hpos hk
 have hLtok : ∀ b, b ∈ L → ∀ j a n c sz, mem j str = false → x.tk j = some (.slice (some a) n c, sz) → 0 < c → a.block ≠ b := by
  intro b hb j a n c sz hjs hj hpos hab
  obtain ⟨j', a', n', c', sz', rfl, hjs', hj', hpos'⟩ := hL b hb
  have := h.toktok j j' a n c sz a' n' c' sz' hj hj' hpos hpos' hab
  subst this
  rw [hjs] at hjs'; cases hjs'
 have hLbase : ∀ b, b ∈ L → e.w0.heap.size ≤ b ∨ b ∈ e.L := by
  intro b hb
  obtain ⟨j, a, n, c, sz, rfl, _, hj, hpos⟩ := hL b hb
  obtain ⟨_, _, _, _, p3, _⟩ := h.tok j _ sz hj a n c rfl hpos
  exact p3
 have hLlt : ∀ b, b ∈ L → b < w.heap.size := by
  intro b hb
  obtain ⟨j, a, n, c, sz, rfl, _, hj, hpos⟩ := hL b hb
  exact h.tokLt hj hpos
 have hsame : ∀ b, b < w.heap.size → b ∉ E → b ∉ L → w'.heap[b]? = w.heap[b]? := hc.old
 have hnoM : ∀ b o, b < w.heap.size → b ∉ L → x.M b o = none → xc.M b o = none := by
  intro b o hb hbL hn
  cases hm : xc.M b o with
  |none => rfl
  |some v =>
   rcases hc.new b o v hm with h1 | h1
   ·rw [show (x.callee ks).M b o = x.M b o from rfl, hn] at h1; cases h1
   ·simp only at h1; rcases h1 with h1 | h1
    ·omega
    ·exact absurd h1 hbL
 have hslotE : ∀ k cs b, lookup m k = some cs → x.loc k = some b → k ∉ ks → b ∉ E := by
  intro k cs b hk hb hn hE'
  obtain ⟨k', cs', h1, h2, h3⟩ := hE b hE'
  exact hn (h.inj k k' cs cs' b hk h1 hb h2 ▸ h3)
 have htokE : ∀ k a n c sz, x.tk k = some (.slice (some a) n c, sz) → 0 < c → a.block ∉ E := by
  intro k a n c sz hk hn hE'
  obtain ⟨k', cs', h1, h2, h3⟩ := hE a.block hE'
  exact h.tokslot k a n c sz k' cs' hk hn h1 h2
 -- slots
 have hslot : ∀ k cs, lookup (writes (scrubM [] str m) (zipW ks d ks ext')) k = some cs →
   (∃ (i : Nat) (cs1 : List AV), ks[i]? = some k ∧ ext'[i]? = some cs1 ∧ cs = AV.backL ks d cs1) ∨ (k ∉ ks ∧ ∃ cs0, lookup m k = some cs0 ∧ cs = AV.scrubL [] str cs0) := by
  intro k cs hk
  by_cases hm : k ∈ ks
  ·obtain ⟨i, hi⟩ := List.getElem?_of_mem hm
   obtain ⟨c1, h1, h2⟩ := hz2 i k hi
   rw [h2] at hk
   exact .inl ⟨i, c1, hi, h1, (Option.some.inj hk).symm⟩
  ·rw [hz1 k hm, lookup_scrubM] at hk
   obtain ⟨c0, h0, h1⟩ := Option.map_eq_some_iff.1 hk
   exact .inr ⟨hm, c0, h0, h1.symm⟩
 have hsl0 : ∀ k cs, lookup (writes (scrubM [] str m) (zipW ks d ks ext')) k = some cs → ∃ cs0, lookup m k = some cs0 := by
  intro k cs hk
  rcases hslot k cs hk with ⟨i, c1, h1, _⟩ | ⟨_, c0, h0, _⟩
  ·obtain ⟨c0, h0, _⟩ := hget i k h1; exact ⟨c0, h0⟩
  ·exact ⟨c0, h0⟩
 refine ⟨⟨hc.sub, ?_, ?_, ?_, ?_, ?_, hc.os.trans h.os, hc.tape.trans h.tape, hc.output.trans h.output, Nat.le_trans h.size hc.size, ?_, h.mono.trans hc.mono, ?_, h.ext, h.low, ?_, h.glob⟩, hext, hbk⟩
 ·intro k cs hk
  rcases hslot k cs hk with ⟨i, c1, h1, h2, rfl⟩ | ⟨hm, c0, h0, rfl⟩
  ·obtain ⟨c0, h0, _⟩ := hget i k h1
   obtain ⟨b, ty, arr, p1, p2, p3, p4, p5⟩ := hc.slot (1000 + i) c1 (by rw [lookup_zipExt, if_pos (by omega), Nat.add_sub_cancel_left]; exact h2)
   have hb : x.loc k = some b := hloc (1000 + i) b k (by omega) p1 (by rw [Nat.add_sub_cancel_left]; exact h1)
   obtain ⟨b', _, _, q1, q2, _⟩ := h.slot k c0 h0
   rw [hb] at q1
   obtain rfl := Option.some.inj q1
   exact ⟨b, ty, arr, hb, q2, by rw [objOf_congr (isMp_back _ _ c1)]; exact p3, p4.back hbk, p5⟩
  ·obtain ⟨b, ty, arr, p1, p2, p3, p4, p5⟩ := h.slot k c0 h0
   have hlt := (Array.getElem?_eq_some_iff.1 p3).1
   have hbL : b ∉ L := fun hb => hLslot b hb k c0 h0 p1
   exact ⟨b, ty, arr, p1, p2, by rw [hsame b hlt (hslotE k c0 b h0 p1 hm) hbL, objOf_congr (isMp_scrub _ _ c0)]; exact p3, p4.scrub hext, fun o => hnoM b o hlt hbL (p5 o)⟩
 ·intro k k' cs cs' b hk hk' hb hb'
  obtain ⟨c0, h0⟩ := hsl0 k cs hk
  obtain ⟨c1, h1⟩ := hsl0 k' cs' hk'
  exact h.inj k k' c0 c1 b h0 h1 hb hb'
 ·intro j v sz hj a n c hv hn
  rcases hnew j _ hj with ⟨_, i, h1, _⟩ | ⟨hjs, h1⟩
  ·obtain ⟨cur, ty, p1, p2, p3, p4, p5, p6, p7⟩ := hc.tok i v sz h1 a n c hv hn
   refine ⟨cur, ty, p1, p2, ?_, p4, p5, p6, p7⟩
   rcases p3 with p3 | p3
   ·exact .inl (Nat.le_trans h.size p3)
   ·exact hLbase _ p3
  ·obtain ⟨cur, ty, p1, p2, p3, p4, p5, p6, p7⟩ := h.tok j v sz h1 a n c hv hn
   have hlt := (Array.getElem?_eq_some_iff.1 p4).1
   have hbL : a.block ∉ L := fun hb => hLtok _ hb j a n c sz hjs (by rw [← hv]; exact h1) hn rfl
   exact ⟨cur, ty, p1, p2, p3, by rw [hsame a.block hlt (htokE j a n c sz (by rw [← hv]; exact h1) hn) hbL]; exact p4, p5, p6, fun i hi => hnoM a.block i hlt hbL (p7 i hi)⟩
 ·intro j a n c sz k cs hj hn hk hl
  obtain ⟨c0, h0⟩ := hsl0 k cs hk
  rcases hnew j _ hj with ⟨_, i, h1, _⟩ | ⟨hjs, h1⟩
  ·obtain ⟨cur, ty, p1, p2, p3, p4, p5, p6, p7⟩ := hc.tok i _ sz h1 a n c rfl hn
   obtain ⟨b, _, _, q1, _, q3, _⟩ := h.slot k c0 h0
   have hlt := (Array.getElem?_eq_some_iff.1 q3).1
   have hl' : x.loc k = some a.block := hl
   rw [q1] at hl'
   have := Option.some.inj hl'
   simp only at p3
   rcases p3 with p3 | p3
   ·omega
   ·exact hLslot _ p3 k c0 h0 hl
  ·exact h.tokslot j a n c sz k c0 h1 hn h0 hl
 ·intro j j' a n c sz a' n' c' sz' hj hj' hn hn' hab
  rcases hnew j _ hj with ⟨_, i, h1, hji⟩ | ⟨hjs, h1⟩
  ·rcases hnew j' _ hj' with ⟨_, i', h2, hji'⟩ | ⟨hjs', h2⟩
   ·have := hc.toktok i i' a n c sz a' n' c' sz' h1 h2 hn hn' hab
    omega
   ·obtain ⟨_, _, _, _, p3, _⟩ := hc.tok i _ sz h1 a n c rfl hn
    have := h.tokLt h2 hn'
    simp only at p3
    rcases p3 with p3 | p3
    ·omega
    ·exact absurd hab.symm (hLtok _ p3 j' a' n' c' sz' hjs' h2 hn')
  ·rcases hnew j' _ hj' with ⟨_, i', h2, hji'⟩ | ⟨_, h2⟩
   ·obtain ⟨_, _, _, _, p3, _⟩ := hc.tok i' _ sz' h2 a' n' c' rfl hn'
    have := h.tokLt h1 hn
    simp only at p3
    rcases p3 with p3 | p3
    ·omega
    ·exact absurd hab (hLtok _ p3 j a n c sz hjs h1 hn)
   ·exact h.toktok j j' a n c sz a' n' c' sz' h1 h2 hn hn' hab
 ·intro b hb hbE hbL
  have hnL : b ∉ L := by
   intro hb'
   rcases hLbase b hb' with h1 | h1
   ·omega
   ·exact hbL h1
  have hnE : b ∉ E := by
   intro hE'
   obtain ⟨k', cs', h1, h2, h3⟩ := hE b hE'
   obtain ⟨b', _, _, q1, q2, _⟩ := h.slot k' cs' h1
   rw [h2] at q1
   obtain rfl := Option.some.inj q1
   rcases q2 with q2 | q2
   ·omega
   ·exact hbE q2.1
  rw [hsame b (by have := h.size; omega) hnE hnL]; exact h.old b hb hbE hbL
 ·intro b o v hv
  rcases hc.new b o v hv with h1 | h1
  ·exact h.new b o v h1
  ·right; simp only at h1; rcases h1 with h1 | h1
   ·left; have := h.size; omega
   ·exact hLbase b h1
 ·refine ⟨fun k b cs hk hmp hb => ?_, h.more.ext, h.more.M0, fun k b cs arr ty hk hv hb hh => ?_, Nat.le_trans h.more.drawn hc.more.drawn⟩
  rotate_left
  ·rcases hslot k cs hk with ⟨i, c1, h1, h2, rfl⟩ | ⟨hm, c0, h0, rfl⟩
   ·have hz : lookup (zipExt 1000 ext') (1000 + i) = some c1 := by rw [lookup_zipExt, if_pos (by omega), Nat.add_sub_cancel_left]; exact h2
    obtain ⟨b', ty', arr', p1, p2, p3, p4, p5⟩ := hc.slot (1000 + i) c1 hz
    have hb' : x.loc k = some b' := hloc (1000 + i) b' k (by omega) p1 (by rw [Nat.add_sub_cancel_left]; exact h1)
    have hb : x.loc k = some b := hb
    rw [hb] at hb'
    obtain rfl := Option.some.inj hb'
    exact hc.more.vir (1000 + i) b c1 arr ty hz (virgin_back hv) p1 hh
   ·obtain ⟨b', ty', arr', p1, p2, p3, p4, p5⟩ := h.slot k c0 h0
    have hb : x.loc k = some b := hb
    rw [hb] at p1
    obtain rfl := Option.some.inj p1
    have hlt := (Array.getElem?_eq_some_iff.1 p3).1
    rw [hsame b hlt (hslotE k c0 b h0 hb hm) (fun hb' => hLslot b hb' k c0 h0 hb)] at hh
    exact h.more.vir k b c0 arr ty h0 (virgin_scrub hv) hb hh
  rcases hslot k cs hk with ⟨i, c1, h1, h2, rfl⟩ | ⟨hm, c0, h0, rfl⟩
  ·have hz : lookup (zipExt 1000 ext') (1000 + i) = some c1 := by rw [lookup_zipExt, if_pos (by omega), Nat.add_sub_cancel_left]; exact h2
   obtain ⟨b', ty, arr, p1, p2, p3, p4, p5⟩ := hc.slot (1000 + i) c1 hz
   have hb' : x.loc k = some b' := hloc (1000 + i) b' k (by omega) p1 (by rw [Nat.add_sub_cancel_left]; exact h1)
   have hb : x.loc k = some b := hb
   rw [hb] at hb'
   obtain rfl := Option.some.inj hb'
   obtain ⟨arr', ty', q1, q2⟩ := hc.more.room (1000 + i) b c1 hz (by rwa [isMp_back] at hmp) p1
   refine ⟨arr', ty', q1, ?_⟩
   have := hbk.cap (1000 + i) k (by omega) (by rw [Nat.add_sub_cancel_left]; exact h1)
   rw [this]; exact q2
  ·obtain ⟨b', ty, arr, p1, p2, p3, p4, p5⟩ := h.slot k c0 h0
   have hb : x.loc k = some b := hb
   rw [hb] at p1
   obtain rfl := Option.some.inj p1
   obtain ⟨arr', ty', q1, q2⟩ := h.more.room k b c0 h0 (by rwa [isMp_scrub] at hmp) hb
   have hlt := (Array.getElem?_eq_some_iff.1 q1).1
   exact ⟨arr', ty', by rw [hsame b hlt (hslotE k c0 b h0 hb hm) (fun hb' => hLslot b hb' k c0 h0 hb)]; exact q1, q2⟩
end Go.Den
namespace Go.Den
theorem lookup_dropNil_none : ∀ {m : Mem} {k : Nat}, (∀ cs, (k, cs) ∉ m) → lookup (dropNil m) k = none
 |[], k, _ => rfl
 |(j, []) :: m, k, h => by
  unfold dropNil
  exact lookup_dropNil_none fun cs hc => h cs (List.mem_cons_of_mem _ hc)
 |(j, c :: cs) :: m, k, h => by
  unfold dropNil
  have hj : j ≠ k := by rintro rfl; exact h _ List.mem_cons_self
  simp only [lookup, beq_eq, if_neg hj]
  exact lookup_dropNil_none fun cs hc => h cs (List.mem_cons_of_mem _ hc)
theorem zipExt_mem : ∀ {ext : List (List AV)} {i k : Nat} {cs : List AV}, (k, cs) ∈ zipExt i ext → i ≤ k ∧ ext[k - i]? = some cs
 |[], i, k, cs, h => by simp [zipExt] at h
 |c :: ext, i, k, cs, h => by
  simp only [zipExt, List.mem_cons, Prod.mk.injEq] at h
  rcases h with ⟨rfl, rfl⟩ | h
  ·exact ⟨Nat.le_refl _, by simp⟩
  ·obtain ⟨h1, h2⟩ := zipExt_mem h
   refine ⟨by omega, ?_⟩
   have : k - i = (k - (i + 1)) + 1 := by omega
   rw [this, List.getElem?_cons_succ]; exact h2
theorem lookup_zipNil : ∀ (ext : List (List AV)) (i k : Nat), lookup (dropNil (zipExt i ext)) k = if i ≤ k then (match ext[k - i]? with | some [] => none | r => r) else none
 |[], i, k => by simp [zipExt, dropNil, lookup]
 |[] :: ext, i, k => by
  simp only [zipExt, dropNil, lookup_zipNil ext (i + 1) k]
  by_cases h : i = k
  ·subst h; rw [if_neg (by omega), if_pos (Nat.le_refl _), Nat.sub_self]; rfl
  ·by_cases h2 : i ≤ k
   ·have h3 : i + 1 ≤ k := by omega
    have : k - i = (k - (i + 1)) + 1 := by omega
    rw [if_pos h2, if_pos h3, this, List.getElem?_cons_succ]
   ·have h3 : ¬ i + 1 ≤ k := by omega
    rw [if_neg h2, if_neg h3]
 |(c :: cs) :: ext, i, k => by
  simp only [zipExt, dropNil, lookup, beq_eq, lookup_zipNil ext (i + 1) k]
  by_cases h : i = k
  ·subst h; simp
  ·rw [if_neg h]
   by_cases h2 : i ≤ k
   ·have h3 : i + 1 ≤ k := by omega
    have : k - i = (k - (i + 1)) + 1 := by omega
    rw [if_pos h2, if_pos h3, this, List.getElem?_cons_succ]
   ·have h3 : ¬ i + 1 ≤ k := by omega
    rw [if_neg h2, if_neg h3]
theorem lookup_zipNil_get {ext : List (List AV)} {i : Nat} {cs : List AV} (h : ext[i]? = some cs) (hne : cs ≠ []) : lookup (dropNil (zipExt 1000 ext)) (1000 + i) = some cs := by
 rw [lookup_zipNil, if_pos (by omega), Nat.add_sub_cancel_left, h]
 cases cs with
 |nil => exact absurd rfl hne
 |cons c cs => rfl
theorem goneOf_mem : ∀ {ks : List Nat} {ext : List (List AV)} {k : Nat}, k ∈ goneOf ks ext ↔ ∃ i : Nat, ks[i]? = some k ∧ ext[i]? = some []
 |[], ext, k => by simp [goneOf]
 |j :: ks, [], k => by simp [goneOf]
 |j :: ks, [] :: ext, k => by
  simp only [goneOf, List.mem_cons, goneOf_mem (ks := ks) (ext := ext)]
  constructor
  ·rintro (rfl | ⟨i, h1, h2⟩)
   ·exact ⟨0, rfl, rfl⟩
   ·exact ⟨i + 1, by simpa using h1, by simpa using h2⟩
  ·rintro ⟨i, h1, h2⟩
   cases i with
   |zero => exact .inl (by simpa using h1.symm)
   |succ i => exact .inr ⟨i, by simpa using h1, by simpa using h2⟩
 |j :: ks, (c :: cs) :: ext, k => by
  simp only [goneOf, goneOf_mem (ks := ks) (ext := ext)]
  constructor
  ·rintro ⟨i, h1, h2⟩; exact ⟨i + 1, by simpa using h1, by simpa using h2⟩
  ·rintro ⟨i, h1, h2⟩
   cases i with
   |zero => simp at h2
   |succ i => exact ⟨i, by simpa using h1, by simpa using h2⟩
theorem allLt_mem {n : Nat} : ∀ {l : List Nat}, allLt n l = true → ∀ k ∈ l, k < n
 |[], _, k, hk => by cases hk
 |j :: l, h, k, hk => by
  simp only [allLt, Bool.and_eq_true] at h
  rcases List.mem_cons.1 hk with rfl | hk
  ·simpa using h.1
  ·exact allLt_mem h.2 k hk
theorem newSlots_len (D : Nat) : ∀ n, (newSlots D n).length = n
 |0 => rfl
 |n + 1 => by simp [newSlots, newSlots_len D n]
theorem newSlots_lt {D : Nat} (hD : D < 300) : ∀ n, n ≤ 3 → ∀ k ∈ newSlots D n, k < 1000
 |0, _, k, hk => by cases hk
 |n + 1, hn, k, hk => by
  simp only [newSlots, List.mem_append, List.mem_singleton] at hk
  rcases hk with h | rfl
  ·exact newSlots_lt hD n (by omega) k h
  ·omega
theorem Inv.behindN {e : Env} {x xc x0 : X} {w w' : World} {m : Mem} (h : Inv e x w m) {ks nw : List Nat} (hnd : (ks ++ nw).Nodup) {ext ext' : List (List AV)} (hcells : cellsOf m ks ks = some ext) (hlen : ext'.length = (ks ++ nw).length)
  (hnw : ∀ k ∈ nw, k < 1000) (hgone : ∀ k ∈ goneOf ks ext', k < 1000)
  (hup : Up { x.callee ks with tk := fun _ => none } x0 (1000 + ks.length)) (hc : Inv ⟨e.P, w, x0, ks.filterMap x.loc, [], []⟩ xc w' (dropNil (zipExt 1000 ext'))) (D : Nat) :
  ∃ x', Inv e x' w' (Den.tidy (writes (scrubM nw (toks8 D) (dropAll m nw)) (zipW (ks ++ nw) D (ks ++ nw) ext'))) ∧ Ext x x' nw (toks8 D) ∧ Back xc xc x' (ks ++ nw) D := by
 obtain ⟨hl1, hget⟩ := cellsOf_get hcells
 have hks : ks.Nodup := (List.nodup_append.1 hnd).1
 have hdis : ∀ k ∈ nw, k ∉ ks := fun k hk hk' => (List.nodup_append.1 hnd).2.2 k hk' k hk rfl
 obtain ⟨hz1, hz2⟩ := lookup_zipW (ks ++ nw) D (ks ++ nw) ext' (scrubM nw (toks8 D) (dropAll m nw)) hlen hnd
 have hE : ∀ b, b ∈ ks.filterMap x.loc → ∃ k cs, lookup m k = some cs ∧ x.loc k = some b ∧ k ∈ ks := by
  intro b hb
  obtain ⟨k, hk1, hk2⟩ := List.mem_filterMap.1 hb
  obtain ⟨i, hi⟩ := List.getElem?_of_mem hk1
  obtain ⟨cs, hcs, _⟩ := hget i k hi
  exact ⟨k, cs, hcs, hk2, hk1⟩
 let tk' : Nat → Option (Value × List Kd) := fun j => if mem j (toks8 D) then xc.tk (j - (1000 + 8 * D)) else x.tk j
 let loc' : Nat → Option Nat := fun j => if j ∈ nw then xc.loc (1000 + index j (ks ++ nw)) else x.loc j
 let cap' : Nat → Nat := fun j => if j ∈ nw then xc.cap (1000 + index j (ks ++ nw)) else x.cap j
 have t1 : ∀ j z, tk' j = some z → (mem j (toks8 D) = true ∧ ∃ i, xc.tk i = some z ∧ j = 1000 + 8 * D + i) ∨ (mem j (toks8 D) = false ∧ x.tk j = some z) := by
  intro j z hj
  simp only [tk'] at hj
  split at hj
  ·rename_i hmj
   have hle : 1000 + 8 * D ≤ j := by
    rw [mem_iff] at hmj
    unfold toks8 at hmj
    simp only [List.mem_cons, List.not_mem_nil, or_false] at hmj
    omega
   exact .inl ⟨hmj, _, hj, by omega⟩
  ·rename_i hmj; exact .inr ⟨by simpa using hmj, hj⟩
 have hM0 : x0.M = x.M := hup.M
 have hext : Ext x { M := xc.M, loc := loc', tk := tk', cap := cap', M0 := x.M0 } nw (toks8 D) := by
  refine ⟨?_, fun k b hk hb => ?_, fun k z hk hz => ?_, fun k hk => ?_, rfl⟩
  ·have := hc.mono; rw [show (Env.x0 ⟨e.P, w, x0, ks.filterMap x.loc, [], []⟩).M = x.M from hM0] at this; exact this
  ·have : k ∉ nw := fun hm => by rw [mem_iff.2 hm] at hk; cases hk
   simp only [loc', if_neg this]; exact hb
  ·simp only [tk', hk]; exact hz
  ·have : k ∉ nw := fun hm => by rw [mem_iff.2 hm] at hk; cases hk
   simp only [cap', if_neg this]
 have hidx : ∀ (i j : Nat), (ks ++ nw)[i]? = some j → index j (ks ++ nw) = i := by
  intro i j hij
  have h1 := index_get (mem_iff.2 (List.mem_of_getElem? hij))
  have hi : i < (ks ++ nw).length := (List.getElem?_eq_some_iff.1 hij).1
  have hi' : index j (ks ++ nw) < (ks ++ nw).length := (List.getElem?_eq_some_iff.1 h1).1
  have e1 := (List.getElem?_eq_some_iff.1 h1).2
  have e2 := (List.getElem?_eq_some_iff.1 hij).2
  exact (List.getElem_inj hnd).1 (e1.trans e2.symm)
 have hold : ∀ (i k : Nat), i < ks.length → ks[i]? = some k → xc.loc (1000 + i) = x.loc k ∧ xc.cap (1000 + i) = x.cap k := by
  intro i k hi hk
  constructor
  ·rw [hc.ext (1000 + i) (by omega)]
   show x0.loc (1000 + i) = _
   rw [hup.loc (1000 + i) (by omega)]
   simp only [X.callee]
   rw [if_pos (by omega), Nat.add_sub_cancel_left, hk]; rfl
  ·rw [hc.more.ext (1000 + i) (by omega)]
   show x0.cap (1000 + i) = _
   rw [hup.cap (1000 + i) (by omega)]
   simp only [X.callee]
   rw [if_pos (by omega), Nat.add_sub_cancel_left, hk]; rfl
 have hloc : ∀ (i j : Nat), (ks ++ nw)[i]? = some j → loc' j = xc.loc (1000 + i) ∧ cap' j = xc.cap (1000 + i) := by
  intro i j hij
  by_cases hi : i < ks.length
  ·rw [List.getElem?_append_left hi] at hij
   have hj : j ∉ nw := fun hm => hdis j hm (List.mem_of_getElem? hij)
   simp only [loc', cap', if_neg hj]
   exact ⟨(hold i j hi hij).1.symm, (hold i j hi hij).2.symm⟩
  ·have hij' := hij
   rw [List.getElem?_append_right (by omega)] at hij
   have hj : j ∈ nw := List.mem_of_getElem? hij
   simp only [loc', cap', if_pos hj, hidx i j hij']
   exact ⟨trivial, trivial⟩
 have hbk : Back xc xc { M := xc.M, loc := loc', tk := tk', cap := cap', M0 := x.M0 } (ks ++ nw) D := by
  refine ⟨rfl, fun k b j hk hb hj => ?_, fun i z hi hz => ?_, fun k j hk hj => ?_⟩
  ·have := (hloc (k - 1000) j hj).1
   rw [show 1000 + (k - 1000) = k by omega] at this
   show loc' j = _
   rw [this]; exact hb
  ·show tk' (1000 + 8 * D + i) = _
   have : mem (1000 + 8 * D + i) (toks8 D) = true := by
    rw [mem_iff]; unfold toks8
    simp only [List.mem_cons, List.not_mem_nil, or_false]; omega
   simp only [tk', this, if_true]
   rw [Nat.add_sub_cancel_left]; exact hz
  ·have := (hloc (k - 1000) j hj).2
   rw [show 1000 + (k - 1000) = k by omega] at this
   exact this
 have hsame : ∀ b, b < w.heap.size → b ∉ ks.filterMap x.loc → w'.heap[b]? = w.heap[b]? := fun b h1 h2 => hc.old b h1 h2 (by simp)
 have hnoM : ∀ b o, b < w.heap.size → x.M b o = none → xc.M b o = none := by
  intro b o hb hn
  cases hm : xc.M b o with
  |none => rfl
  |some v =>
   rcases hc.new b o v hm with h1 | h1
   ·rw [show (Env.x0 ⟨e.P, w, x0, ks.filterMap x.loc, [], []⟩).M b o = x.M b o from by rw [show (Env.x0 ⟨e.P, w, x0, ks.filterMap x.loc, [], []⟩) = x0 from rfl, hM0], hn] at h1; cases h1
   ·simp only at h1; rcases h1 with h1 | h1
    ·omega
    ·cases h1
 have hslotE : ∀ k cs b, lookup m k = some cs → x.loc k = some b → k ∉ ks → b ∉ ks.filterMap x.loc := by
  intro k cs b hk hb hn hE'
  obtain ⟨k', cs', h1, h2, h3⟩ := hE b hE'
  exact hn (h.inj k k' cs cs' b hk h1 hb h2 ▸ h3)
 have htokE : ∀ k a n c sz, x.tk k = some (.slice (some a) n c, sz) → 0 < c → a.block ∉ ks.filterMap x.loc := by
  intro k a n c sz hk hn hE'
  obtain ⟨k', cs', h1, h2, h3⟩ := hE a.block hE'
  exact h.tokslot k a n c sz k' cs' hk hn h1 h2
 -- slots
 have hslot : ∀ k cs, lookup (Den.tidy (writes (scrubM nw (toks8 D) (dropAll m nw)) (zipW (ks ++ nw) D (ks ++ nw) ext'))) k = some cs →
   (∃ (i : Nat) (cs1 : List AV), (ks ++ nw)[i]? = some k ∧ lookup (dropNil (zipExt 1000 ext')) (1000 + i) = some cs1 ∧ cs = AV.backL (ks ++ nw) D cs1) ∨ (k ∉ ks ++ nw ∧ ∃ cs0, lookup m k = some cs0 ∧ cs = AV.scrubL nw (toks8 D) cs0) := by
  intro k cs hk
  obtain ⟨hk, hne⟩ := tidy_get hk
  by_cases hm : k ∈ ks ++ nw
  ·obtain ⟨i, hi⟩ := List.getElem?_of_mem hm
   obtain ⟨c1, h1, h2⟩ := hz2 i k hi
   rw [h2] at hk
   have hk' := Option.some.inj hk
   refine .inl ⟨i, c1, hi, lookup_zipNil_get h1 ?_, hk'.symm⟩
   rintro rfl
   exact hne (by rw [← hk']; rfl)
  ·rw [hz1 k hm, lookup_scrubM, lookup_dropAll] at hk
   obtain ⟨c0, h0, h1⟩ := Option.map_eq_some_iff.1 hk
   split at h0
   ·cases h0
   ·exact .inr ⟨hm, c0, h0, h1.symm⟩
 -- a slot of the callee's: its block
 have hblk : ∀ (i k b : Nat) (c1 : List AV), (ks ++ nw)[i]? = some k → lookup (dropNil (zipExt 1000 ext')) (1000 + i) = some c1 → xc.loc (1000 + i) = some b →
   (e.w0.heap.size ≤ b ∨ b ∈ e.E ∧ 1000 ≤ k) ∧ (w.heap.size ≤ b ∨ b ∈ ks.filterMap x.loc) := by
  intro i k b c1 hik hl hb
  obtain ⟨b', ty, arr, p1, p2, p3, p4, p5⟩ := hc.slot (1000 + i) c1 hl
  rw [hb] at p1
  obtain rfl := Option.some.inj p1
  have hw : w.heap.size ≤ b ∨ b ∈ ks.filterMap x.loc := by
   rcases p2 with p2 | p2
   ·exact .inl p2
   ·exact .inr p2.1
  refine ⟨?_, hw⟩
  rcases hw with hw | hw
  ·exact .inl (Nat.le_trans h.size hw)
  ·obtain ⟨k', cs', g1, g2, g3⟩ := hE b hw
   obtain ⟨i', hi'⟩ := List.getElem?_of_mem g3
   have hlt' : i' < ks.length := (List.getElem?_eq_some_iff.1 hi').1
   obtain ⟨b2, _, _, q1, q2, _⟩ := h.slot k' cs' g1
   rw [g2] at q1
   obtain rfl := Option.some.inj q1
   by_cases hsk : i' = i
   ·subst hsk
    rw [List.getElem?_append_left hlt', hi'] at hik
    obtain rfl := Option.some.inj hik
    exact q2
   ·-- another one holds the block: it is no more
    have hg : ext'[i']? = some [] := by
     obtain ⟨c2, hc2, _⟩ := hz2 i' k' (by rw [List.getElem?_append_left hlt']; exact hi')
     by_cases hne : c2 = []
     ·rw [hc2, hne]
     ·exfalso
      have hl2 := lookup_zipNil_get hc2 hne
      have hb2 : xc.loc (1000 + i') = some b := (hold i' k' hlt' hi').1.trans g2
      have := hc.inj (1000 + i') (1000 + i) c2 c1 b hl2 hl hb2 hb
      omega
    have hk' := hgone k' (goneOf_mem.2 ⟨i', hi', hg⟩)
    rcases q2 with q2 | q2
    ·exact .inl q2
    ·omega
 refine ⟨{ M := xc.M, loc := loc', tk := tk', cap := cap', M0 := x.M0 }, ⟨hc.sub, ?_, ?_, ?_, ?_, ?_, hc.os.trans h.os, hc.tape.trans h.tape, hc.output.trans h.output, Nat.le_trans h.size hc.size, ?_, h.mono.trans hext.M, ?_, ?_, h.low, ?_, h.glob⟩, hext, hbk⟩
 ·intro k cs hk
  rcases hslot k cs hk with ⟨i, c1, h1, h2, rfl⟩ | ⟨hm, c0, h0, rfl⟩
  ·obtain ⟨b, ty, arr, p1, p2, p3, p4, p5⟩ := hc.slot (1000 + i) c1 h2
   exact ⟨b, ty, arr, (hloc i k h1).1.trans p1, (hblk i k b c1 h1 h2 p1).1, by rw [objOf_congr (isMp_back _ _ c1)]; exact p3, p4.back hbk, p5⟩
  ·obtain ⟨b, ty, arr, p1, p2, p3, p4, p5⟩ := h.slot k c0 h0
   have hlt := (Array.getElem?_eq_some_iff.1 p3).1
   have hk1 : k ∉ ks := fun hh => hm (List.mem_append.2 (.inl hh))
   have hk2 : k ∉ nw := fun hh => hm (List.mem_append.2 (.inr hh))
   refine ⟨b, ty, arr, by simp only [loc', if_neg hk2]; exact p1, p2, by rw [hsame b hlt (hslotE k c0 b h0 p1 hk1), objOf_congr (isMp_scrub _ _ c0)]; exact p3, p4.scrub hext, fun o => hnoM b o hlt (p5 o)⟩
 ·intro k k' cs cs' b hk hk' hb hb'
  rcases hslot k cs hk with ⟨i, c1, h1, h2, rfl⟩ | ⟨hm, c0, h0, rfl⟩
  ·have g1 : xc.loc (1000 + i) = some b := (hloc i k h1).1.symm.trans hb
   rcases hslot k' cs' hk' with ⟨i', c1', h1', h2', rfl⟩ | ⟨hm', c0', h0', rfl⟩
   ·have g1' : xc.loc (1000 + i') = some b := (hloc i' k' h1').1.symm.trans hb'
    have hii := hc.inj (1000 + i) (1000 + i') c1 c1' b h2 h2' g1 g1'
    have : i = i' := by omega
    subst this
    rw [h1] at h1'; exact Option.some.inj h1'
   ·have hk2 : k' ∉ nw := fun hh => hm' (List.mem_append.2 (.inr hh))
    have hk1 : k' ∉ ks := fun hh => hm' (List.mem_append.2 (.inl hh))
    simp only [loc', if_neg hk2] at hb'
    obtain ⟨b2, ty2, arr2, q1, _, q3, _⟩ := h.slot k' c0' h0'
    rw [hb'] at q1
    obtain rfl := Option.some.inj q1
    have hlt := (Array.getElem?_eq_some_iff.1 q3).1
    rcases (hblk i k b c1 h1 h2 g1).2 with g | g
    ·omega
    ·exact absurd g (hslotE k' c0' b h0' hb' hk1)
  ·have hk2 : k ∉ nw := fun hh => hm (List.mem_append.2 (.inr hh))
   have hk1 : k ∉ ks := fun hh => hm (List.mem_append.2 (.inl hh))
   simp only [loc', if_neg hk2] at hb
   rcases hslot k' cs' hk' with ⟨i', c1', h1', h2', rfl⟩ | ⟨hm', c0', h0', rfl⟩
   ·have g1' : xc.loc (1000 + i') = some b := (hloc i' k' h1').1.symm.trans hb'
    obtain ⟨b2, ty2, arr2, q1, _, q3, _⟩ := h.slot k c0 h0
    rw [hb] at q1
    obtain rfl := Option.some.inj q1
    have hlt := (Array.getElem?_eq_some_iff.1 q3).1
    rcases (hblk i' k' b c1' h1' h2' g1').2 with g | g
    ·omega
    ·exact absurd g (hslotE k c0 b h0 hb hk1)
   ·have hk2' : k' ∉ nw := fun hh => hm' (List.mem_append.2 (.inr hh))
    simp only [loc', if_neg hk2'] at hb'
    exact h.inj k k' c0 c0' b h0 h0' hb hb'
 ·intro j v sz hj a n c hv hn
  rcases t1 j _ hj with ⟨_, i, h1, _⟩ | ⟨hjs, h1⟩
  ·obtain ⟨cur, ty, p1, p2, p3, p4, p5, p6, p7⟩ := hc.tok i v sz h1 a n c hv hn
   refine ⟨cur, ty, p1, p2, ?_, p4, p5, p6, p7⟩
   rcases p3 with p3 | p3
   ·exact .inl (Nat.le_trans h.size p3)
   ·cases p3
  ·obtain ⟨cur, ty, p1, p2, p3, p4, p5, p6, p7⟩ := h.tok j v sz h1 a n c hv hn
   have hlt := (Array.getElem?_eq_some_iff.1 p4).1
   exact ⟨cur, ty, p1, p2, p3, by rw [hsame a.block hlt (htokE j a n c sz (by rw [← hv]; exact h1) hn)]; exact p4, p5, p6, fun i hi => hnoM a.block i hlt (p7 i hi)⟩
 ·intro j a n c sz k cs hj hn hk hl
  rcases hslot k cs hk with ⟨i, c1, h1, h2, rfl⟩ | ⟨hm, c0, h0, rfl⟩
  ·have g1 : xc.loc (1000 + i) = some a.block := (hloc i k h1).1.symm.trans hl
   rcases t1 j _ hj with ⟨_, q, h3, _⟩ | ⟨hjs, h3⟩
   ·exact hc.tokslot q a n c sz (1000 + i) c1 h3 hn h2 g1
   ·have hlt := h.tokLt h3 hn
    rcases (hblk i k a.block c1 h1 h2 g1).2 with g | g
    ·omega
    ·exact htokE j a n c sz h3 hn g
  ·have hk2 : k ∉ nw := fun hh => hm (List.mem_append.2 (.inr hh))
   simp only [loc', if_neg hk2] at hl
   rcases t1 j _ hj with ⟨_, q, h3, _⟩ | ⟨hjs, h3⟩
   ·obtain ⟨cur, ty, p1, p2, p3, p4, p5, p6, p7⟩ := hc.tok q _ sz h3 a n c rfl hn
    obtain ⟨b, _, _, q1, _, q3, _⟩ := h.slot k c0 h0
    have hlt := (Array.getElem?_eq_some_iff.1 q3).1
    rw [hl] at q1
    have := Option.some.inj q1
    rcases p3 with p3 | p3
    ·simp only at p3; omega
    ·cases p3
   ·exact h.tokslot j a n c sz k c0 h3 hn h0 hl
 ·intro j j' a n c sz a' n' c' sz' hj hj' hn hn' hab
  rcases t1 j _ hj with ⟨_, i, h1, hji⟩ | ⟨hjs, h1⟩
  ·rcases t1 j' _ hj' with ⟨_, i', h2, hji'⟩ | ⟨hjs', h2⟩
   ·have := hc.toktok i i' a n c sz a' n' c' sz' h1 h2 hn hn' hab
    omega
   ·obtain ⟨_, _, _, _, p3, _⟩ := hc.tok i _ sz h1 a n c rfl hn
    have := h.tokLt h2 hn'
    rcases p3 with p3 | p3
    ·simp only at p3; omega
    ·cases p3
  ·rcases t1 j' _ hj' with ⟨_, i', h2, hji'⟩ | ⟨_, h2⟩
   ·obtain ⟨_, _, _, _, p3, _⟩ := hc.tok i' _ sz' h2 a' n' c' rfl hn'
    have := h.tokLt h1 hn
    rcases p3 with p3 | p3
    ·simp only at p3; omega
    ·cases p3
   ·exact h.toktok j j' a n c sz a' n' c' sz' h1 h2 hn hn' hab
 ·intro b hb hbE hbL
  have hnE : b ∉ ks.filterMap x.loc := by
   intro hE'
   obtain ⟨k', cs', h1, h2, h3⟩ := hE b hE'
   obtain ⟨b', _, _, q1, q2, _⟩ := h.slot k' cs' h1
   rw [h2] at q1
   obtain rfl := Option.some.inj q1
   rcases q2 with q2 | q2
   ·omega
   ·exact hbE q2.1
  rw [hsame b (by have := h.size; omega) hnE]; exact h.old b hb hbE hbL
 ·intro b o v hv
  rcases hc.new b o v hv with h1 | h1
  ·rw [show (Env.x0 ⟨e.P, w, x0, ks.filterMap x.loc, [], []⟩) = x0 from rfl, hM0] at h1
   exact h.new b o v h1
  ·right; simp only at h1; rcases h1 with h1 | h1
   ·left; have := h.size; omega
   ·cases h1
 ·intro k hk
  have hk2 : k ∉ nw := fun hh => by have := hnw k hh; omega
  simp only [loc', if_neg hk2]
  exact h.ext k hk
 ·refine ⟨fun k b cs hk hmp hb => ?_, fun k hk => ?_, h.more.M0, fun k b cs arr ty hk hv hb hh => ?_, Nat.le_trans h.more.drawn hc.more.drawn⟩
  ·rcases hslot k cs hk with ⟨i, c1, h1, h2, rfl⟩ | ⟨hm, c0, h0, rfl⟩
   ·have g1 : xc.loc (1000 + i) = some b := (hloc i k h1).1.symm.trans hb
    obtain ⟨arr', ty', q1, q2⟩ := hc.more.room (1000 + i) b c1 h2 (by rwa [isMp_back] at hmp) g1
    refine ⟨arr', ty', q1, ?_⟩
    show cap' k ≤ _
    rw [(hloc i k h1).2]; exact q2
   ·have hk1 : k ∉ ks := fun hh => hm (List.mem_append.2 (.inl hh))
    have hk2 : k ∉ nw := fun hh => hm (List.mem_append.2 (.inr hh))
    simp only [loc', if_neg hk2] at hb
    obtain ⟨arr', ty', q1, q2⟩ := h.more.room k b c0 h0 (by rwa [isMp_scrub] at hmp) hb
    have hlt := (Array.getElem?_eq_some_iff.1 q1).1
    refine ⟨arr', ty', by rw [hsame b hlt (hslotE k c0 b h0 hb hk1)]; exact q1, ?_⟩
    show cap' k ≤ _
    simp only [cap', if_neg hk2]; exact q2
  ·have hk2 : k ∉ nw := fun hh => by have := hnw k hh; omega
   show cap' k = _
   simp only [cap', if_neg hk2]
   exact h.more.ext k hk
  ·rcases hslot k cs hk with ⟨i, c1, h1, h2, rfl⟩ | ⟨hm, c0, h0, rfl⟩
   ·have g1 : xc.loc (1000 + i) = some b := (hloc i k h1).1.symm.trans hb
    exact hc.more.vir (1000 + i) b c1 arr ty h2 (virgin_back hv) g1 hh
   ·have hk1 : k ∉ ks := fun hh => hm (List.mem_append.2 (.inl hh))
    have hk2 : k ∉ nw := fun hh => hm (List.mem_append.2 (.inr hh))
    simp only [loc', if_neg hk2] at hb
    obtain ⟨b', ty', arr', p1, p2, p3, p4, p5⟩ := h.slot k c0 h0
    rw [hb] at p1
    obtain rfl := Option.some.inj p1
    have hlt := (Array.getElem?_eq_some_iff.1 p3).1
    rw [hsame b hlt (hslotE k c0 b h0 hb hk1)] at hh
    exact h.more.vir k b c0 arr ty h0 (virgin_scrub hv) hb hh
end Go.Den
namespace Go.Den
mutual
theorem Rep.bare {x x' : X} (hM : x'.M = x.M) (hl : x'.loc = x.loc ∧ x'.cap = x.cap ∧ x'.M0 = x.M0) : ∀ {a v}, Rep x a v → Rep x' a.bare v
 |_, _, .dv d v h => by unfold AV.bare; exact .dv d v (by rw [hM]; exact h)
 |_, _, .sl n kd rows r v h hr => by unfold AV.bare; exact .sl n kd rows _ v (by rw [hM]; exact h) trivial
 |_, _, .agg cs vs h => by unfold AV.bare; exact .agg _ vs (RepL.bare hM hl h)
 |_, _, .tup cs vs h => by unfold AV.bare; exact .tup _ vs (RepL.bare hM hl h)
 |_, _, .pl k off b h => by unfold AV.bare; exact .pl k off b (by rw [hl.1]; exact h)
 |_, _, .pv kd row off b o h1 h2 h3 => by unfold AV.bare; exact .pv kd row off b o h1 (by rw [hM]; exact h2) (by rw [hl.2.2]; exact h3)
 |_, _, .fn f cs vs h => by unfold AV.bare; exact .fn f _ vs (RepL.bare hM hl h)
 |_, _, .ifc t a v h => by unfold AV.bare; exact .ifc t _ v (Rep.bare hM hl h)
 |_, _, .ms k kd off n c b o c' h g1 g2 g3 => by unfold AV.bare; exact .ms k kd off n c b o c' (by rw [hl.1]; exact h) g1 g2 (by rw [hl.2.1]; exact g3)
 |_, _, .pa k kd i j b h => by unfold AV.bare; exact .pa k kd i j b (by rw [hl.1]; exact h)
 |_, _, .junk v => by unfold AV.bare; exact .junk v
theorem RepL.bare {x x' : X} (hM : x'.M = x.M) (hl : x'.loc = x.loc ∧ x'.cap = x.cap ∧ x'.M0 = x.M0) : ∀ {l vs}, RepL x l vs → RepL x' (AV.bareL l) vs
 |_, _, .nil => by unfold AV.bareL; exact .nil
 |_, _, .cons a v l vs ha h => by unfold AV.bareL; exact .cons _ _ _ _ (Rep.bare hM hl ha) (RepL.bare hM hl h)
end

theorem Cont.bare {x x' : X} (hM : x'.M = x.M) (hl : x'.loc = x.loc ∧ x'.cap = x.cap ∧ x'.M0 = x.M0) {cs : List AV} {l : List Value} (hc : Cont x cs l) : Cont x' (AV.bareL cs) l := by
 rcases hc with hc | ⟨kd, rows, rfl, hc⟩ | ⟨ag, kd, rows, rfl, hc⟩
 ·exact .inl (hc.bare hM hl)
 ·exact .inr (.inl ⟨kd, rows, by simp [AV.bareL, AV.bare], by rw [hM]; exact hc⟩)
 ·rw [bareL_map]; exact Cont.mpMap (x := x) MpMap.bare hc
theorem Cont.get {x : X} {cs : List AV} {l : List Value} (hc : Cont x cs l) {i : Nat} {n : Bool} {ks : List Kd} {rows : Rows} {r : Right} (h : cs[i]? = some (.sl n ks rows r)) : ∃ v, l[i]? = some v ∧ Rep x (.sl n ks rows r) v := by
 rcases hc with hc | ⟨kd, rows', rfl, _⟩ | ⟨ag, kd, rows', rfl, _⟩
 rotate_left 2
 ·match i with
  |0 => cases ag <;> simp [mpTag] at h
  |1 => simp at h
  |i + 2 => simp at h
 ·exact hc.get h
 ·cases i with
  |zero => simp at h
  |succ i => simp at h

theorem nodup_iff : ∀ {l : List Nat}, nodup l = true → l.Nodup
 |[], _ => List.nodup_nil
 |k :: l, h => by
  simp only [nodup, Bool.and_eq_true, Bool.not_eq_true'] at h
  exact List.nodup_cons.2 ⟨fun hm => by rw [mem_iff.2 hm] at h; exact absurd h.1 (by simp), nodup_iff h.2⟩

theorem top_mem : ∀ {t : List AV} {i : Nat} {a : AV} {k : Nat}, t[i]? = some a → k ∈ a.topTok → k ∈ topToks t
 |[], i, a, k, h, _ => by simp at h
 |b :: t, 0, a, k, h, hk => by simp at h; subst h; simp [topToks, hk]
 |b :: t, i + 1, a, k, h, hk => by simp at h; simp [topToks, top_mem h hk]
theorem top_unique : ∀ {t : List AV}, (topToks t).Nodup → ∀ {i j : Nat} {a b : AV} {k : Nat}, t[i]? = some a → t[j]? = some b → k ∈ a.topTok → k ∈ b.topTok → i = j
 |[], _, i, j, a, b, k, h, _, _, _ => by simp at h
 |c :: t, hn, i, j, a, b, k, hi, hj, ha, hb => by
  simp only [topToks] at hn
  obtain ⟨h1, h2, h3⟩ := List.nodup_append.1 hn
  cases i with
  |zero =>
   cases j with
   |zero => rfl
   |succ j => simp at hi hj; subst hi; exact absurd rfl (h3 k ha k (top_mem hj hb))
  |succ i =>
   cases j with
   |zero => simp at hi hj; subst hj; exact absurd rfl (h3 k hb k (top_mem hi ha))
   |succ j => simp at hi hj; rw [top_unique h2 hi hj ha hb]
def heldT (t : List AV) (tmps : Array Value) (j : Nat) : Option (Value × List Kd) :=
 match t[j]? with
 |some (.sl _ ks rows .ex) => match rows.isEmpty with | true => some (tmps.getD j undef, ks) | false => none
 |some (.sl _ ks _ (.tok _)) => some (tmps.getD j undef, ks)
 |_ => none
def Right.held (rows : Rows) : Right → Bool
 | .no => false
 | .ex => rows.isEmpty
 | .tok _ => true
 | .old => false
theorem held_ne {r : Right} {rows : Rows} (h : r.held rows = true) : r ≠ .no ∧ r ≠ .old := by cases r <;> simp [Right.held] at h ⊢
theorem ex_room {x : X} {n : Bool} {ks : List Kd} {rows : Rows} {r : Right} {v : Value} {sz : List Kd} (hd : RepD x.M (.sl n ks rows) v) {d : DV} (hr : RtOk x r d v sz) (h : r.held rows = true) : r = .ex → ∀ a n c, v = .slice (some a) n c → ¬ 0 < c := by
 rintro rfl a n' c hv
 obtain ⟨a', q, hq⟩ := hr
 have hrows : rows = [] := by cases rows with | nil => rfl | cons => simp [Right.held] at h
 subst hrows
 rw [hv] at hq
 injection hq with _ h1 h2
 rcases hd.rows with ⟨_, _, h3⟩ | ⟨a2, c2, _, h3, _⟩
 ·rw [hv] at h3; cases h3
 ·rw [hv] at h3
  injection h3 with _ h4 h5
  simp only [List.length_nil] at h4
  omega
end Go.Den
namespace Go.Den
theorem Inv.stay {e : Env} {x : X} {w w' : World} {m : Mem} (h : Inv e x w m) (hold : ∀ b, b < w.heap.size → w'.heap[b]? = w.heap[b]?) (hsz : w.heap.size ≤ w'.heap.size)
  (hos : w'.os = w.os) (htape : w'.tape = w.tape) (hout : w'.output = w.output) (hd : w.drawn ≤ w'.drawn) : Inv e x w' m where
 sub b o v hv := by
  have h1 := h.sub b o v hv
  have h2 := h.lt hv
  unfold World.cell? at h1 ⊢
  simp only [hold b h2]
  exact h1
 slot k cs hk := by
  obtain ⟨b, ty, arr, h1, h2, h3, h4, h5⟩ := h.slot k cs hk
  exact ⟨b, ty, arr, h1, h2, by rw [hold b (Array.getElem?_eq_some_iff.1 h3).1]; exact h3, h4, h5⟩
 inj := h.inj
 tok k v sz hk a n c hv hn := by
  obtain ⟨cur, ty, h1, h2, h3, h4, h5, h6, h7⟩ := h.tok k v sz hk a n c hv hn
  exact ⟨cur, ty, h1, h2, h3, by rw [hold _ (Array.getElem?_eq_some_iff.1 h4).1]; exact h4, h5, h6, h7⟩
 tokslot := h.tokslot
 toktok := h.toktok
 os := hos.trans h.os
 tape := htape.trans h.tape
 output := hout.trans h.output
 size := Nat.le_trans h.size hsz
 old b hb hE hL := by rw [hold b (by have := h.size; omega)]; exact h.old b hb hE hL
 mono := h.mono
 new := h.new
 ext := h.ext
 low := h.low
 more := by
  refine ⟨fun k b cs hk hmp hb => ?_, h.more.ext, h.more.M0, fun k b cs arr ty hk hv hb hh => ?_, Nat.le_trans h.more.drawn hd⟩
  ·obtain ⟨arr, ty, h1, h2⟩ := h.more.room k b cs hk hmp hb
   exact ⟨arr, ty, by rw [hold b (Array.getElem?_eq_some_iff.1 h1).1]; exact h1, h2⟩
  ·obtain ⟨b', ty', arr', h1, _, h3, _, _⟩ := h.slot k cs hk
   rw [hb] at h1
   cases h1
   rw [hold b (Array.getElem?_eq_some_iff.1 h3).1] at hh
   exact h.more.vir k b cs arr ty hk hv hb hh
 glob := h.glob

def X.looker (x : X) (w : World) (bs : List Nat) : X :=
 { M := fun b o => if b ∈ bs then w.cell? ⟨b, o, none⟩ else x.M b o, loc := fun _ => none, tk := fun _ => none, cap := fun _ => 0, M0 := fun b o => if b ∈ bs then w.cell? ⟨b, o, none⟩ else x.M b o }
theorem X.looker_sub {e : Env} {x : X} {w : World} {m : Mem} (h : Inv e x w m) (bs : List Nat) : Sub x.M (x.looker w bs).M := by
 intro b o v hv
 simp only [X.looker]
 split
 ·exact h.sub b o v hv
 ·exact hv
theorem cell?_lt {w : World} {b o : Nat} {v : Value} (h : w.cell? ⟨b, o, none⟩ = some v) : b < w.heap.size := by
 unfold World.cell? at h
 split at h
 ·rename_i hb; exact (Array.getElem?_eq_some_iff.1 hb).1
 ·simp at h
theorem Inv.looker {e : Env} {x : X} {w : World} {m : Mem} (h : Inv e x w m) (bs : List Nat) : Inv ⟨e.P, w, x.looker w bs, [], [], []⟩ (x.looker w bs) w (zipExt 1000 []) where
 sub b o v hv := by
  simp only [X.looker] at hv
  split at hv
  ·exact hv
  ·exact h.sub b o v hv
 slot k cs hk := by simp [zipExt, lookup] at hk
 inj k k' cs cs' b hk := by simp [zipExt, lookup] at hk
 tok k v sz hk := by simp [X.looker] at hk
 tokslot k a n c sz j cs hk := by simp [X.looker] at hk
 toktok k k' a n c sz a' n' c' sz' hk := by simp [X.looker] at hk
 os := rfl
 tape := rfl
 output := rfl
 size := Nat.le_refl _
 old b _ _ _ := rfl
 mono := Sub.refl _
 new b o v hv := .inl hv
 ext k _ := rfl
 low b o v hv := by
  simp only [X.looker] at hv
  split at hv
  ·exact cell?_lt hv
  ·exact h.lt hv
 more := ⟨fun k b cs hk => by simp [zipExt, lookup] at hk, fun _ _ => rfl, rfl, fun k b cs arr ty hk => by simp [zipExt, lookup] at hk, Nat.le_refl _⟩
 glob g hg := by
  obtain ⟨⟨ty, fr, h1⟩, ⟨v, h2⟩, h3, h4⟩ := h.glob g hg
  have hlt : g < e.w0.heap.size := (Array.getElem?_eq_some_iff.1 h1).1
  exact ⟨⟨ty, fr, by rw [h.old g hlt h3 h4]; exact h1⟩, ⟨v, X.looker_sub h bs _ _ _ (h.mono _ _ _ h2)⟩, by simp, by simp⟩
theorem Inv.looked {e : Env} {x xc : X} {w w' : World} {m : Mem} {bs : List Nat} (h : Inv e x w m) (hc : Inv ⟨e.P, w, x.looker w bs, [], [], []⟩ xc w' (zipExt 1000 [])) : Inv e x w' m :=
 h.stay (fun b hb => hc.old b hb (by simp) (by simp)) hc.size hc.os hc.tape hc.output hc.more.drawn
mutual
theorem Kd.same_refl : ∀ k : Kd, Kd.same k k = true
 | .b => rfl
 | .i k => by simp [Kd.same]
 | .s => rfl
 | .sl a => by simp only [Kd.same]; exact Kd.sameL_refl a
 | .o => rfl
theorem Kd.sameL_refl : ∀ a : List Kd, Kd.sameL a a = true
 |[] => rfl
 |x :: a => by simp [Kd.sameL, Kd.same_refl x, Kd.sameL_refl a]
end
theorem DV.ofKd_kd : ∀ d : DV, DV.ofKd d.kd d = true
 | .sl _ ks _ => by simp [DV.kd, DV.ofKd, Kd.sameL_refl]
 | .val v => by cases v <;> simp [DV.kd, DV.ofKd]
theorem Row.ofKds_kds : ∀ r : Row, Row.ofKds (Row.kds r) r = true
 |[] => rfl
 |d :: r => by simp [Row.kds, Row.ofKds, DV.ofKd_kd d, Row.ofKds_kds r]
theorem cellsAt_flats {M M' : Mm} {x : X} (hM : x.M = M) (hs : Sub M M') {b : Nat} : ∀ {cs : List AV} {vs : List Value}, RepL x cs vs → ∀ {row : Row} (o : Nat), AV.flats cs = some row → (∀ j v, vs[j]? = some v → M' b (o + j) = some v) → CellsAt M' b o row
 |_, _, .nil, row, o, h, _ => by simp [AV.flats] at h; subst h; exact .nil b o
 |_, _, .cons a v l vs ha hl, row, o, h, hv => by
  simp only [AV.flats] at h
  split at h
  ·rename_i d hd
   split at h
   ·rename_i r hr
    cases h
    have h0 := hv 0 v (by simp)
    have hrec := cellsAt_flats hM hs hl (o + 1) hr fun j u hu => by have := hv (j + 1) u (by simpa using hu); rw [← this]; congr 1; omega
    refine .cons b o d v r h0 ?_ hrec
    cases ha with
    |dv d' _ h1 => simp [AV.flat] at hd; subst hd; exact (hM ▸ h1 : RepD M _ v).mono hs
    |sl n ks rows r' _ h1 _ => simp [AV.flat] at hd; subst hd; exact (hM ▸ h1 : RepD M _ v).mono hs
    |_ => simp [AV.flat] at hd
   ·cases h
  ·cases h
def slotBs (x : X) (m : Mem) : List Nat := (m.map Prod.fst).filterMap x.loc
theorem mem_slotBs {x : X} {b : Nat} : ∀ {m : Mem} {k : Nat} {cs : List AV}, lookup m k = some cs → x.loc k = some b → b ∈ slotBs x m
 |[], k, cs, h, _ => by simp [lookup] at h
 |(i, c) :: m, k, cs, h, hb => by
  simp only [slotBs, List.map_cons, List.mem_filterMap, List.mem_cons]
  simp only [lookup] at h
  split at h
  ·rename_i hk
   exact ⟨k, .inl (beq_eq.1 hk).symm, hb⟩
  ·have := mem_slotBs h hb
   simp only [slotBs, List.mem_filterMap] at this
   obtain ⟨j, hj, hj2⟩ := this
   exact ⟨j, .inr hj, hj2⟩
mutual
theorem Rep.look {e : Env} {x : X} {w : World} {m : Mem} (h : Inv e x w m) : ∀ {a v}, Rep x a v → Rep (x.looker w (slotBs x m)) (AV.look m a) v
 |_, _, .dv d v hd => by unfold AV.look; exact .dv d v (hd.mono (X.looker_sub h _))
 |_, _, .sl n kd rows r v hd hr => by unfold AV.look; exact .sl n kd rows _ v (hd.mono (X.looker_sub h _)) trivial
 |_, _, .agg cs vs hl => by unfold AV.look; exact .agg _ vs (RepL.look h hl)
 |_, _, .tup cs vs hl => by unfold AV.look; exact .junk _
 |_, _, .pl k off b hk => by
  simp only [AV.look]
  split
  ·rename_i cs hcs
   split
   ·rename_i row hrow
    split
    ·rename_i hoff
     have hoff : off < 1000000000 := by simpa using hoff
     obtain ⟨b', ty, arr, h1, h2, h3, h4, h5⟩ := h.slot k cs hcs
     rw [hk] at h1
     cases h1
     have hrl : RepL x cs arr.toList := by
      rcases h4 with h4 | ⟨ks, rows, rfl, _⟩ | ⟨ag, ks, rows, rfl, _⟩
      ·exact h4
      ·simp [AV.flats, AV.flat] at hrow
      ·cases ag <;> simp [AV.flats, AV.flat, mpTag] at hrow
     rw [objOf_cells hrl.notMp] at h3
     have hcell : CellsAt (x.looker w (slotBs x m)).M b 0 row := by
      refine cellsAt_flats rfl (X.looker_sub h _) hrl 0 hrow fun j v hv => ?_
      simp only [X.looker]
      rw [if_pos (mem_slotBs hcs hk)]
      simp only [World.cell?, h3]
      simpa using hv
     have e1 : pvOff off = off := Nat.mod_eq_of_lt (by omega)
     have e2 : Nat.beq off mapOff = false := by
      cases hq : Nat.beq off mapOff with
      |false => rfl
      |true => have := beq_eq.1 hq; simp only [mapOff] at this; omega
     rw [ptrV_ptr e2]
     have := Rep.pv (x := x.looker w (slotBs x m)) (Row.kds row) row off b 0 (Row.ofKds_kds row) hcell (fun _ => hcell)
     rw [e1, Nat.zero_add] at this
     exact this
    ·exact .junk _
   ·exact .junk _
  ·exact .junk _
 |_, _, .pv kd row off b o h1 h2 h3 => by
  unfold AV.look
  have hc := h2.mono (X.looker_sub h (slotBs x m))
  have := Rep.pv (x := x.looker w (slotBs x m)) kd row (pvOff off) b o h1 hc (fun _ => hc)
  rwa [pvOff_idem] at this
 |_, _, .fn f cs vs hl => by unfold AV.look; exact .fn f _ vs (RepL.look h hl)
 |_, _, .ifc t a v ha => by unfold AV.look; exact .ifc t _ v (Rep.look h ha)
 |_, _, .ms k kd off n c b o c' hk g1 g2 g3 => by unfold AV.look; exact .junk _
 |_, _, .pa k kd i j b hk => by unfold AV.look; exact .junk _
 |_, _, .junk v => by unfold AV.look; exact .junk v
theorem RepL.look {e : Env} {x : X} {w : World} {m : Mem} (h : Inv e x w m) : ∀ {l vs}, RepL x l vs → RepL (x.looker w (slotBs x m)) (AV.lookL m l) vs
 |_, _, .nil => by unfold AV.lookL; exact .nil
 |_, _, .cons a v l vs ha hl => by unfold AV.lookL; exact .cons _ _ _ _ (Rep.look h ha) (RepL.look h hl)
end
end Go.Den
namespace Go.Den
variable {e : Env} {x : X} {w : World} {m : Mem} {tm : List AV} {a : Act} {next : Act → World → Prop} {Q : Exit → Act → World → Prop}

def After (e : Env) (x x' : X) (w' : World) (m : Mem) (v : Value) : Eff → Prop
 | .pure r => Rep x' r v ∧ Inv e x' w' m ∧ Ext x x' [] []
 | .full r p ks wr => Rep x' r v ∧ Inv e x' w' (tidy (writes (scrubM p ks (dropAll m p)) wr)) ∧ Ext x x' p ks

theorem scrubM_nil : ∀ m : Mem, scrubM [] [] m = m
 |[] => rfl
 |(k, cs) :: m => by simp only [scrubM, AV.scrubL_nil, scrubM_nil m]

mutual
theorem Rep.noTok {x : X} : ∀ {a v}, Rep x a v → a.hasTok = false → Rep { x with tk := fun _ => none } a v
 |_, _, .dv d v h, _ => .dv d v h
 |_, _, .sl n kd rows r v h hr, ht => by
  refine .sl n kd rows r v h ?_
  cases r with
  |no => trivial
  |ex => exact hr
  |tok k => simp [AV.hasTok] at ht
  |old => exact hr
 |_, _, .agg cs vs h, ht => .agg cs vs (RepL.noTok h (by simpa [AV.hasTok] using ht))
 |_, _, .tup cs vs h, ht => .tup cs vs (RepL.noTok h (by simpa [AV.hasTok] using ht))
 |_, _, .pl k off b h, _ => .pl k off b h
 |_, _, .pv kd row off b o h1 h2 h3, _ => .pv kd row off b o h1 h2 h3
 |_, _, .fn f cs vs h, ht => .fn f cs vs (RepL.noTok h (by simpa [AV.hasTok] using ht))
 |_, _, .ifc t a v h, ht => .ifc t a v (Rep.noTok h (by simpa [AV.hasTok] using ht))
 |_, _, .ms k kd off n c b o c' h g1 g2 g3, _ => .ms k kd off n c b o c' h g1 g2 g3
 |_, _, .pa k kd i j b h, _ => .pa k kd i j b h
 |_, _, .junk v, _ => .junk v
theorem RepL.noTok {x : X} : ∀ {l vs}, RepL x l vs → AV.hasTokL l = false → RepL { x with tk := fun _ => none } l vs
 |_, _, .nil, _ => .nil
 |_, _, .cons a v l vs ha hl, ht => by
  simp only [AV.hasTokL, Bool.or_eq_false_iff] at ht
  exact .cons a v l vs (Rep.noTok ha ht.1) (RepL.noTok hl ht.2)
end

theorem toks8_mem (D i : Nat) (hi : i < 8) : mem (1000 + 8 * D + i) (toks8 D) = true := by
 rw [mem_iff]
 unfold toks8
 simp only [List.mem_cons, List.not_mem_nil, or_false]
 omega
theorem toks8_le (D j : Nat) (hj : mem j (toks8 D) = true) : 1000 + 8 * D ≤ j := by
 rw [mem_iff] at hj
 unfold toks8 at hj
 simp only [List.mem_cons, List.not_mem_nil, or_false] at hj
 omega

def blkOf : Option (Value × List Kd) → Option Nat
 |some (.slice (some a) _ c, _) => if 0 < c then some a.block else none
 |_ => none
def lentBlocks (args : List AV) (vs : List Value) : List Nat := (List.range args.length).filterMap fun i => blkOf (heldT args ⟨vs⟩ i)
def lentTk (args : List AV) (vs : List Value) : Nat → Option (Value × List Kd) := fun j => if 500000 ≤ j then heldT args ⟨vs⟩ (j - 500000) else none
theorem heldT_from {args : List AV} {vs : List Value} (hT : RepL x args vs) {j : Nat} {v : Value} {sz : List Kd} (h : heldT args ⟨vs⟩ j = some (v, sz)) :
  ∃ n ks rows r, args[j]? = some (.sl n ks rows r) ∧ vs[j]? = some v ∧ RepD x.M (.sl n ks rows) v ∧ RtOk x r (.sl n ks rows) v ks ∧ r.held rows = true ∧ sz = ks := by
 unfold heldT at h
 split at h
 ·rename_i n ks rows hj
  obtain ⟨u, hu, hr⟩ := hT.get hj
  have : (⟨vs⟩ : Array Value).getD j undef = u := by rw [Array.getD_eq_getD_getElem?]; simp [hu]
  rw [this] at h
  split at h
  ·rename_i he
   cases h
   cases hr with
   |sl _ _ _ _ _ hd hr => exact ⟨n, _, rows, .ex, hj, hu, hd, hr, he, rfl⟩
  ·cases h
 ·rename_i n ks rows k hj
  obtain ⟨u, hu, hr⟩ := hT.get hj
  have : (⟨vs⟩ : Array Value).getD j undef = u := by rw [Array.getD_eq_getD_getElem?]; simp [hu]
  rw [this] at h
  cases h
  cases hr with
  |sl _ _ _ _ _ hd hr => exact ⟨n, _, rows, .tok k, hj, hu, hd, hr, rfl, rfl⟩
 ·cases h
theorem heldT_tok {args : List AV} {vs : List Value} (hT : RepL x args vs) {j : Nat} {a : Addr} {n c : Nat} {sz : List Kd} (h : heldT args ⟨vs⟩ j = some (.slice (some a) n c, sz)) (hc : 0 < c) :
  ∃ k b, x.tk k = some (.slice (some a) n c, sz) ∧ args[j]? = some b ∧ k ∈ b.topTok := by
 obtain ⟨nl, ks, rows, r, h1, h2, h3, h4, h5, rfl⟩ := heldT_from hT h
 cases r with
 |no => simp [Right.held] at h5
 |old => simp [Right.held] at h5
 |ex => exact absurd hc (ex_room h3 h4 h5 rfl a n c rfl)
 |tok k => exact ⟨k, _, h4, h1, by simp [AV.topTok, Right.toks]⟩
theorem lentBlocks_get {args : List AV} {vs : List Value} {b : Nat} (h : b ∈ lentBlocks args vs) : ∃ j a n c sz, heldT args ⟨vs⟩ j = some (.slice (some a) n c, sz) ∧ 0 < c ∧ b = a.block := by
 obtain ⟨j, _, hj⟩ := List.mem_filterMap.1 h
 unfold blkOf at hj
 split at hj
 ·rename_i a n c sz he
  split at hj
  ·rename_i hc; cases hj; exact ⟨j, a, n, c, sz, he, hc, rfl⟩
  ·cases hj
 ·cases hj
theorem lentBlocks_mem {args : List AV} {vs : List Value} {j : Nat} {a : Addr} {n c : Nat} {sz : List Kd} (h : heldT args ⟨vs⟩ j = some (.slice (some a) n c, sz)) (hc : 0 < c) : a.block ∈ lentBlocks args vs := by
 refine List.mem_filterMap.2 ⟨j, ?_, by rw [h]; simp [blkOf, hc]⟩
 rw [List.mem_range]
 unfold heldT at h
 split at h
 ·rename_i hj; exact (List.getElem?_eq_some_iff.1 hj).1
 ·rename_i hj; exact (List.getElem?_eq_some_iff.1 hj).1
 ·cases h
theorem Rep.lend {args : List AV} {vs : List Value} {ks : List Nat} {i : Nat} {a : AV} {v : Value} (ha : args[i]? = some a) (hv : vs[i]? = some v) (h : Rep x a v) : Rep { x.callee ks with tk := lentTk args vs } (AV.lend ks i a) v := by
 have hget : (⟨vs⟩ : Array Value).getD i undef = v := by rw [Array.getD_eq_getD_getElem?]; simp [hv]
 have hpass : Rep { x.callee ks with tk := lentTk args vs } (AV.pass ks a).bare v := Rep.bare (x := { x.callee ks with tk := lentTk args vs }) rfl ⟨rfl, rfl, rfl⟩ (h.passT _)
 cases h with
 |sl n kd rows r _ hd hr =>
  simp only [AV.lend]
  refine .sl _ _ _ _ _ hd ?_
  cases r with
  |no => trivial
  |old => trivial
  |tok k =>
   show lentTk args vs (500000 + i) = _
   unfold lentTk
   rw [if_pos (by omega), Nat.add_sub_cancel_left]
   unfold heldT
   rw [ha, hget]
  |ex =>
   simp only [Right.lend]
   cases he : rows.isEmpty with
   |false => trivial
   |true =>
    show lentTk args vs (500000 + i) = _
    unfold lentTk
    rw [if_pos (by omega), Nat.add_sub_cancel_left]
    unfold heldT
    rw [ha, hget]
    simp only [he]
 |dv => exact hpass
 |agg => exact hpass
 |tup => exact hpass
 |pl => exact hpass
 |pv => exact hpass
 |fn => exact hpass
 |ifc => exact hpass
 |ms => exact hpass
 |pa => exact hpass
 |junk => exact hpass
theorem RepL.lend {x' : X} {ks : List Nat} : ∀ {l : List AV} {us : List Value} (i : Nat), RepL x l us → (∀ q a v, l[q]? = some a → us[q]? = some v → Rep x a v → Rep x' (AV.lend ks (i + q) a) v) → RepL x' (AV.lendL ks i l) us
 |_, _, i, .nil, _ => .nil
 |_, _, i, .cons a v l us ha hl, h => .cons _ _ _ _ (by simpa using h 0 a v rfl rfl ha) (RepL.lend (i + 1) hl fun q b u hb hu hr => by have := h (q + 1) b u (by simpa using hb) (by simpa using hu) hr; rwa [show i + 1 + q = i + (q + 1) by omega])
theorem hasTok_lend {ks : List Nat} : ∀ {l : List AV} {i q : Nat} {a : AV}, l[q]? = some a → (AV.lend ks (i + q) a).hasTok = true → AV.hasTokL (AV.lendL ks i l) = true
 |[], i, q, a, h, _ => by simp at h
 |b :: l, i, 0, a, h, ht => by simp at h; subst h; simp only [AV.lendL, AV.hasTokL, Bool.or_eq_true]; exact .inl ht
 |b :: l, i, q + 1, a, h, ht => by
  simp only [AV.lendL, AV.hasTokL, Bool.or_eq_true]
  exact .inr (hasTok_lend (i := i + 1) (q := q) (by simpa using h) (by rwa [show i + 1 + q = i + (q + 1) by omega]))
theorem lend_hasTok {ks : List Nat} {i : Nat} {n : Bool} {kd : List Kd} {rows : Rows} {r : Right} (h5 : r.held rows = true) : (AV.lend ks i (.sl n kd rows r)).hasTok = true := by
 simp only [AV.lend]
 cases r with
 |no => simp [Right.held] at h5
 |old => simp [Right.held] at h5
 |tok k => rfl
 |ex => simp only [Right.held] at h5; simp only [Right.lend, h5, AV.hasTok]
theorem lend_top {ks : List Nat} {i : Nat} {n : Bool} {kd : List Kd} {rows : Rows} {r : Right} (h5 : r.held rows = true) : ∃ z, z ∈ (AV.lend ks i (.sl n kd rows r)).topTok := by
 simp only [AV.lend]
 cases r with
 |no => simp [Right.held] at h5
 |old => simp [Right.held] at h5
 |tok k => exact ⟨500000 + i, by simp [Right.lend, AV.topTok, Right.toks]⟩
 |ex => simp only [Right.held] at h5; exact ⟨500000 + i, by simp [Right.lend, h5, AV.topTok, Right.toks]⟩
theorem lendL_get {ks : List Nat} : ∀ {l : List AV} {i q : Nat} {a : AV}, l[q]? = some a → (AV.lendL ks i l)[q]? = some (AV.lend ks (i + q) a)
 |[], i, q, a, h => by simp at h
 |b :: l, i, 0, a, h => by simp at h; subst h; simp [AV.lendL]
 |b :: l, i, q + 1, a, h => by
  simp only [AV.lendL, List.getElem?_cons_succ]
  rw [lendL_get (i := i + 1) (q := q) (by simpa using h), show i + 1 + q = i + (q + 1) by omega]
theorem lendOf_tok {ks : List Nat} {n : Bool} {kd : List Kd} {rows : Rows} {r : Right} (h5 : r.held rows = true) : ∀ (l : List Nat) (i q : Nat), (catM m l)[q]? = some (.sl n kd rows r) → AV.hasTokLL (lendOf m ks i l) = true
 |[], i, q, h => by simp [catM] at h
 |k :: l, i, q, h => by
  simp only [catM, lendOf] at h ⊢
  cases hk : lookup m k with
  |none =>
   simp only [hk] at h ⊢
   simp only [AV.hasTokLL, Bool.or_eq_true]
   exact .inr (lendOf_tok h5 l _ _ h)
  |some cs =>
   simp only [hk] at h ⊢
   cases hp : plain cs with
   |true =>
    simp only [hp] at h ⊢
    simp only [AV.hasTokLL, Bool.or_eq_true]
    by_cases hq : q < cs.length
    ·rw [List.getElem?_append_left hq] at h
     refine .inl ?_
     obtain ⟨z, hz⟩ := lend_top (ks := ks) (i := i + q) (n := n) (kd := kd) h5
     have := top_mem (lendL_get (i := i) h) hz
     split
     ·rename_i h0; rw [h0] at this; cases this
     ·rfl
    ·rw [List.getElem?_append_right (by omega)] at h
     exact .inr (lendOf_tok h5 l _ _ h)
   |false =>
    simp only [hp] at h ⊢
    simp only [AV.hasTokLL, Bool.or_eq_true]
    cases q with
    |zero => simp at h
    |succ q => exact .inr (lendOf_tok h5 l _ q (by simpa using h))
theorem lent_none {args : List AV} {vs : List Value} {l : List Nat} (hT : RepL x (args ++ catM m l) vs) {ks : List Nat} (h : (AV.hasTokL (AV.lendL ks 0 args) || AV.hasTokLL (lendOf m ks args.length l)) = false) : lentBlocks (args ++ catM m l) vs = [] ∧ ∀ k, lentTk (args ++ catM m l) vs k = none := by
 have hno : ∀ j, heldT (args ++ catM m l) ⟨vs⟩ j = none := by
  intro j
  cases hj : heldT (args ++ catM m l) ⟨vs⟩ j with
  |none => rfl
  |some z =>
   obtain ⟨v, sz⟩ := z
   obtain ⟨nl, kd, rows, r, h1, _, _, _, h5, _⟩ := heldT_from hT hj
   rw [Bool.or_eq_false_iff] at h
   by_cases hq : j < args.length
   ·rw [List.getElem?_append_left hq] at h1
    have : AV.hasTokL (AV.lendL ks 0 args) = true := hasTok_lend (q := j) h1 (lend_hasTok h5)
    rw [h.1] at this; cases this
   ·rw [List.getElem?_append_right (by omega)] at h1
    have := lendOf_tok (ks := ks) h5 l args.length _ h1
    rw [h.2] at this; cases this
 refine ⟨List.filterMap_eq_nil_iff.2 fun j _ => by rw [hno]; rfl, fun k => ?_⟩
 unfold lentTk
 split
 ·exact hno _
 ·rfl

def slotVals (x : X) (w : World) (m : Mem) : List Nat → List Value
 |[] => []
 |k :: l => match lookup m k with
  |some cs => match plain cs with
   |true => (match x.loc k with | some b => (match w.heap[b]? with | some (.cells arr _ _) => arr.toList | _ => []) | none => []) ++ slotVals x w m l
   |false => undef :: slotVals x w m l
  |none => slotVals x w m l
theorem slotVals_rep (hI : Inv e x w m) : ∀ l, RepL x (catM m l) (slotVals x w m l)
 |[] => .nil
 |k :: l => by
  unfold catM slotVals
  cases hk : lookup m k with
  |none => exact slotVals_rep hI l
  |some cs =>
   simp only
   cases hp : plain cs with
   |false => exact .cons _ _ _ _ (.junk _) (slotVals_rep hI l)
   |true =>
    obtain ⟨b, ty, arr, h1, _, h3, h4, _⟩ := hI.slot k cs hk
    rw [objOf_cells (plain_notMp hp)] at h3
    simp only [h1, h3]
    exact (h4.plain hp).append (slotVals_rep hI l)
theorem VirMap.lend (ks : List Nat) (i : Nat) : VirMap (AV.lend ks i) where
 a a h := by
  cases a with
  |sl => cases h
  |_ => exact (VirMap.pass ks).a _ (VirMap.bare.a _ h)
 b a r h := by
  cases a with
  |sl n kd rows r' => simp only [AV.lend] at h; cases h; exact ⟨_, rfl⟩
  |_ => obtain ⟨r', h'⟩ := VirMap.bare.b _ _ h; exact (VirMap.pass ks).b _ _ h'
 c a v h := by
  cases a with
  |sl => cases h
  |_ => exact (VirMap.pass ks).c _ _ (VirMap.bare.c _ _ h)
theorem virgin_lend {ks : List Nat} {i : Nat} {cs : List AV} (h : virgin (AV.lendL ks i cs) = true) : virgin cs = true := by
 obtain ⟨r, v, h⟩ := virgin_iff.1 h
 rcases cs with _ | ⟨a, _ | ⟨b, _ | ⟨c, _ | ⟨d, cs⟩⟩⟩⟩
 ·cases h
 ·simp [AV.lendL] at h
 ·simp [AV.lendL] at h
 ·simp only [AV.lendL, List.cons.injEq, and_true] at h
  obtain ⟨h1, h2, h3⟩ := h
  obtain ⟨r', rfl⟩ := (VirMap.lend ks _).b _ _ h2
  rw [(VirMap.lend ks _).a _ h1, (VirMap.lend ks _).c _ _ h3]; rfl
 ·simp [AV.lendL] at h
theorem MpMap.lend (ks : List Nat) (i : Nat) : MpMap (AV.lend ks i) where
 tag ag := by cases ag <;> rfl
 arr ks' rows := ⟨rows, rfl⟩
 flat ks' rows _ := rfl
 tag' a ag h := by
  cases a with
  |sl => cases ag <;> cases h
  |_ => exact (MpMap.pass ks).tag' _ _ (MpMap.bare.tag' _ _ h)
 arr' a ks' rows h := by
  cases a with
  |sl => cases h
  |_ => obtain ⟨r', h'⟩ := MpMap.bare.arr' _ _ _ h; exact (MpMap.pass ks).arr' _ _ _ h'
theorem isMp_lend (ks : List Nat) (i : Nat) (cs : List AV) : isMp (AV.lendL ks i cs) = isMp cs := by
 rcases cs with _ | ⟨a, _ | ⟨b, _ | ⟨c, l⟩⟩⟩
 ·rfl
 ·have h1 : ∀ q : AV, isMp [q] = false := fun q => by
   cases hm : isMp [q] with
   |false => rfl
   |true => obtain ⟨ag, kd, rows, he⟩ := isMp_eq hm; simp at he
  rw [h1]; exact h1 _
 ·show isMp [AV.lend ks i a, AV.lend ks (i + 1) b] = _
  cases h : isMp [a, b] with
  |true =>
   obtain ⟨ag, kd, rows, he⟩ := isMp_eq h
   simp only [List.cons.injEq, and_true] at he
   rw [he.1, he.2, (MpMap.lend ks i).tag]
   exact isMp_tag ag kd rows
  |false =>
   cases h2 : isMp [AV.lend ks i a, AV.lend ks (i + 1) b] with
   |false => rfl
   |true =>
    obtain ⟨ag, kd, rows, he⟩ := isMp_eq h2
    simp only [List.cons.injEq, and_true] at he
    obtain ⟨r', hb⟩ := (MpMap.lend ks (i + 1)).arr' _ _ _ he.2
    rw [(MpMap.lend ks i).tag' _ _ he.1, hb, isMp_tag] at h
    cases h
 ·have h1 : ∀ q r s (z : List AV), isMp (q :: r :: s :: z) = false := fun q r s z => by
   cases hm : isMp (q :: r :: s :: z) with
   |false => rfl
   |true => obtain ⟨ag, kd, rows, he⟩ := isMp_eq hm; simp at he
  show isMp (_ :: _ :: _ :: _) = _
  rw [h1, h1]
def EntryOk (x : X) (w : World) (m : Mem) (ks : List Nat) (ktk : Nat → Option (Value × List Kd)) (l : List Nat) (ext : List (List AV)) : Prop :=
 ext.length = l.length ∧ ∀ (i k : Nat), l[i]? = some k → ∃ c0 c1, lookup m k = some c0 ∧ ext[i]? = some c1 ∧ ((virgin c1 = true → virgin c0 = true) ∧ isMp c1 = isMp c0) ∧
  ∀ b ty arr, x.loc k = some b → w.heap[b]? = some (objOf c0 arr ty) → Cont x c0 arr.toList → Cont { x.callee ks with tk := ktk } c1 arr.toList
theorem entry_pass {ks : List Nat} {ext : List (List AV)} (hext : cellsOf m ks ks = some ext) (ktk : Nat → Option (Value × List Kd)) : EntryOk x w m ks ktk ks ext := by
 obtain ⟨h1, h2⟩ := cellsOf_get hext
 refine ⟨h1, fun i k hk => ?_⟩
 obtain ⟨c0, h3, h4⟩ := h2 i k hk
 exact ⟨c0, _, h3, h4, ⟨virgin_pass, isMp_pass ks c0⟩, fun _ _ _ _ _ hc => hc.passT ktk⟩
theorem entry_lend (hI : Inv e x w m) {ks : List Nat} {T : List AV} {V : List Value} : ∀ (l : List Nat) (i : Nat), (∀ k, k ∈ l → ∃ c0, lookup m k = some c0) → (∀ q a, (catM m l)[q]? = some a → T[i + q]? = some a) → (∀ q v, (slotVals x w m l)[q]? = some v → V[i + q]? = some v) →
  EntryOk x w m ks (lentTk T V) l (lendOf m ks i l)
 |[], i, _, _, _ => ⟨rfl, fun i k h => by simp at h⟩
 |k :: l, i, hl, hT, hV => by
  obtain ⟨c0, h0⟩ := hl k List.mem_cons_self
  obtain ⟨b, ty, arr, g1, _, g3, g4, _⟩ := hI.slot k c0 h0
  cases hp : plain c0 with
  |true =>
   rw [objOf_cells (plain_notMp hp)] at g3
   simp only [catM, h0, hp] at hT
   simp only [slotVals, h0, hp, g1, g3] at hV
   have hlen : c0.length = arr.toList.length := (g4.plain hp).length
   obtain ⟨r1, r2⟩ := entry_lend hI (ks := ks) (T := T) (V := V) l (i + c0.length) (fun k hk => hl k (List.mem_cons_of_mem _ hk)) (fun q a h => by
    have := hT (c0.length + q) a (by rw [List.getElem?_append_right (by omega), Nat.add_sub_cancel_left]; exact h)
    rw [← this]; congr 1; omega) (fun q v h => by
    have := hV (c0.length + q) v (by rw [List.getElem?_append_right (by omega), hlen, Nat.add_sub_cancel_left]; exact h)
    rw [← this]; congr 1; omega)
   have e1 : lendOf m ks i (k :: l) = AV.lendL ks i c0 :: lendOf m ks (i + c0.length) l := by simp only [lendOf, h0, hp]
   rw [e1]
   refine ⟨by simp [r1], fun j k' hj => ?_⟩
   cases j with
   |zero =>
    simp only [List.getElem?_cons_zero, Option.some.injEq] at hj
    subst hj
    refine ⟨c0, _, h0, rfl, ⟨virgin_lend, isMp_lend ks i c0⟩, fun b' ty' arr' p1 p2 hc => .inl ?_⟩
    rw [g1] at p1; cases p1
    rw [objOf_cells (plain_notMp hp)] at p2
    rw [g3] at p2; cases p2
    refine RepL.lend i (hc.plain hp) fun q a v q1 q2 q3 => ?_
    refine Rep.lend (hT q a ?_) (hV q v ?_) q3
    ·rw [List.getElem?_append_left (List.getElem?_eq_some_iff.1 q1).1]; exact q1
    ·rw [List.getElem?_append_left (List.getElem?_eq_some_iff.1 q2).1]; exact q2
   |succ j => simpa using r2 j k' (by simpa using hj)
  |false =>
   simp only [catM, h0, hp] at hT
   simp only [slotVals, h0, hp] at hV
   obtain ⟨r1, r2⟩ := entry_lend hI (ks := ks) (T := T) (V := V) l (i + 1) (fun k hk => hl k (List.mem_cons_of_mem _ hk)) (fun q a h => by
    have := hT (q + 1) a (by simpa using h)
    rw [← this]; congr 1; omega) (fun q v h => by
    have := hV (q + 1) v (by simpa using h)
    rw [← this]; congr 1; omega)
   have e1 : lendOf m ks i (k :: l) = AV.passL ks c0 :: lendOf m ks (i + 1) l := by simp only [lendOf, h0, hp]
   rw [e1]
   refine ⟨by simp [r1], fun j k' hj => ?_⟩
   cases j with
   |zero =>
    simp only [List.getElem?_cons_zero, Option.some.injEq] at hj
    subst hj
    exact ⟨c0, _, h0, rfl, ⟨virgin_pass, isMp_pass ks c0⟩, fun _ _ _ _ _ hc => hc.passT _⟩
   |succ j => simpa using r2 j k' (by simpa using hj)
theorem slots_at {ks : List Nat} {ext : List (List AV)} (hext : cellsOf m ks ks = some ext) : ∀ b, b ∈ ks.filterMap x.loc → ∃ k cs, lookup m k = some cs ∧ x.loc k = some b ∧ k ∈ ks := by
 obtain ⟨hl1, hget⟩ := cellsOf_get hext
 intro b hb
 obtain ⟨k, hk1, hk2⟩ := List.mem_filterMap.1 hb
 obtain ⟨i, hi⟩ := List.getElem?_of_mem hk1
 obtain ⟨cs, hcs, _⟩ := hget i k hi
 exact ⟨k, cs, hcs, hk2, hk1⟩
theorem Inv.globs (hI : Inv e x w m) {ks : List Nat} {ext : List (List AV)} (hext : cellsOf m ks ks = some ext) {ktk : Nat → Option (Value × List Kd)} {D : List Deferred} {L : List Nat}
  (htokL : ∀ b, b ∈ L → ∃ k a n c sz, b = a.block ∧ x.tk k = some (.slice (some a) n c, sz) ∧ 0 < c) : GlobOk ⟨e.P, w, { x.callee ks with tk := ktk }, ks.filterMap x.loc, D, L⟩ := by
 intro g hg
 obtain ⟨⟨ty, fr, h1⟩, ⟨v, h2⟩, h3, h4⟩ := hI.glob g hg
 have hlt : g < e.w0.heap.size := (Array.getElem?_eq_some_iff.1 h1).1
 have hv := hI.mono g 0 v h2
 refine ⟨⟨ty, fr, by rw [hI.old g hlt h3 h4]; exact h1⟩, ⟨v, hv⟩, fun hE => ?_, fun hL => ?_⟩
 ·obtain ⟨k, cs, p1, p2, _⟩ := slots_at hext g hE
  obtain ⟨b, _, _, q1, _, _, _, q5⟩ := hI.slot k cs p1
  rw [p2] at q1
  cases q1
  rw [q5 0] at hv; cases hv
 ·obtain ⟨k, a, n, c, sz, rfl, p1, p2⟩ := htokL g hL
  obtain ⟨_, _, _, _, q3, _⟩ := hI.tok k _ sz p1 a n c rfl p2
  rcases q3 with q3 | q3
  ·omega
  ·exact h4 q3
theorem Inv.enter (hI : Inv e x w m) {ks : List Nat} {ext : List (List AV)} (hnd : ks.Nodup) (hext : cellsOf m ks ks = some ext) (D : List Deferred) {ktk : Nat → Option (Value × List Kd)} {L : List Nat} {ext2 : List (List AV)} (hent : EntryOk x w m ks ktk ks ext2)
  (htok : ∀ j a n c sz, ktk j = some (.slice (some a) n c, sz) → 0 < c → a.block ∈ L ∧ ∃ k, x.tk k = some (.slice (some a) n c, sz))
  (hone : ∀ j j' a n c sz a' n' c' sz', ktk j = some (.slice (some a) n c, sz) → ktk j' = some (.slice (some a') n' c', sz') → 0 < c → 0 < c' → a.block = a'.block → j = j')
  (htokL : ∀ b, b ∈ L → ∃ k a n c sz, b = a.block ∧ x.tk k = some (.slice (some a) n c, sz) ∧ 0 < c) :
  Inv ⟨e.P, w, { x.callee ks with tk := ktk }, ks.filterMap x.loc, D, L⟩ { x.callee ks with tk := ktk } w (zipExt 1000 ext2) := by
 obtain ⟨hl1, hget⟩ := hent
 have hz : ∀ k cs, lookup (zipExt 1000 ext2) k = some cs → ∃ (q j : Nat), k = 1000 + q ∧ ks[q]? = some j ∧ ∃ c0, lookup m j = some c0 ∧ (((virgin cs = true → virgin c0 = true) ∧ isMp cs = isMp c0) ∧ ∀ b ty arr, x.loc j = some b → w.heap[b]? = some (objOf c0 arr ty) → Cont x c0 arr.toList → Cont { x.callee ks with tk := ktk } cs arr.toList) ∧ (x.callee ks).loc k = x.loc j := by
  intro k cs hk
  rw [lookup_zipExt] at hk
  split at hk
  ·rename_i hle
   obtain ⟨q, rfl⟩ : ∃ q, k = 1000 + q := ⟨k - 1000, by omega⟩
   rw [Nat.add_sub_cancel_left] at hk
   have hlt : q < ks.length := by rw [← hl1]; exact (List.getElem?_eq_some_iff.1 hk).1
   obtain ⟨c0, c1, h0, h1, h2⟩ := hget q (ks[q]'hlt) (List.getElem?_eq_getElem hlt)
   rw [hk] at h1
   cases h1
   refine ⟨q, ks[q]'hlt, rfl, List.getElem?_eq_getElem hlt, c0, h0, h2, ?_⟩
   simp only [X.callee]
   rw [if_pos (by omega), Nat.add_sub_cancel_left, List.getElem?_eq_getElem hlt]; rfl
  ·cases hk
 have hglob : GlobOk ⟨e.P, w, { x.callee ks with tk := ktk }, ks.filterMap x.loc, D, L⟩ := hI.globs hext htokL
 refine ⟨hI.sub, ?_, ?_, ?_, ?_, ?_,
  rfl, rfl, rfl, Nat.le_refl _, fun _ _ _ _ => rfl, Sub.refl _, fun _ _ _ h => .inl h, fun _ _ => rfl, fun _ _ _ hv => hI.lt hv, ⟨fun k b cs hk hmp hb => by
    obtain ⟨q, j, rfl, hj, c0, h0, hv0, hb1⟩ := hz k cs hk
    have hb : (x.callee ks).loc (1000 + q) = some b := hb
    rw [hb1] at hb
    obtain ⟨arr, ty, r1, r2⟩ := hI.more.room j b c0 h0 (by rw [← hv0.1.2]; exact hmp) hb
    refine ⟨arr, ty, r1, ?_⟩
    have hcap : (x.callee ks).cap (1000 + q) = x.cap j := by simp only [X.callee]; rw [if_pos (by omega), Nat.add_sub_cancel_left, hj]; rfl
    show (x.callee ks).cap (1000 + q) ≤ _
    rw [hcap]; exact r2, fun _ _ => rfl, rfl, fun k b cs arr ty hk hv hb hh => by
    obtain ⟨q, j, rfl, hj, c0, h0, hv0, hb1⟩ := hz k cs hk
    have hb : (x.callee ks).loc (1000 + q) = some b := hb
    rw [hb1] at hb
    exact hI.more.vir j b c0 arr ty h0 (hv0.1.1 hv) hb hh, Nat.le_refl _⟩, hglob⟩
 ·intro k cs hk
  obtain ⟨q, j, rfl, hj, c0, h0, hc, hb⟩ := hz k cs hk
  obtain ⟨b, ty, arr, p1, p2, p3, p4, p5⟩ := hI.slot j c0 h0
  exact ⟨b, ty, arr, hb.trans p1, .inr ⟨List.mem_filterMap.2 ⟨j, List.mem_of_getElem? hj, p1⟩, by omega⟩, by rw [objOf_congr hc.1.2]; exact p3, hc.2 b ty arr p1 p3 p4, p5⟩
 ·intro k k' cs cs' b hk hk' hb hb'
  obtain ⟨q, j, rfl, hj, c0, h0, _, hb1⟩ := hz k cs hk
  obtain ⟨q', j', rfl, hj', c1, h1, _, hb2⟩ := hz k' cs' hk'
  have hb : (x.callee ks).loc (1000 + q) = some b := hb
  have hb' : (x.callee ks).loc (1000 + q') = some b := hb'
  rw [hb1] at hb; rw [hb2] at hb'
  have := hI.inj j j' c0 c1 b h0 h1 hb hb'
  subst this
  have hlt : q < ks.length := (List.getElem?_eq_some_iff.1 hj).1
  have hlt' : q' < ks.length := (List.getElem?_eq_some_iff.1 hj').1
  have e1 : ks[q] = ks[q'] := by
   rw [(List.getElem?_eq_some_iff.1 hj).2, (List.getElem?_eq_some_iff.1 hj').2]
  rw [(List.getElem_inj hnd).1 e1]
 ·intro j v sz hj a n c hv hc
  subst hv
  obtain ⟨h1, k, h2⟩ := htok j a n c sz hj hc
  obtain ⟨cur, ty, p1, p2, p3, p4, p5, p6, p7⟩ := hI.tok k _ sz h2 a n c rfl hc
  exact ⟨cur, ty, p1, p2, .inr h1, p4, p5, p6, p7⟩
 ·intro j a n c sz k cs hj hc hk
  obtain ⟨h1, k', h2⟩ := htok j a n c sz hj hc
  obtain ⟨q, j', rfl, hj', c0, h0, _, hb⟩ := hz k cs hk
  show (x.callee ks).loc (1000 + q) ≠ _
  rw [hb]
  exact hI.tokslot k' a n c sz j' c0 h2 hc h0
 ·exact hone

theorem after_call (hI : Inv e x w m) {ks : List Nat} {ext : List (List AV)} (hnd : ks.Nodup) (hext : cellsOf m ks ks = some ext) {xc : X} {w' : World} {out : Out} {v : Value}
  (hlen : out.ext.length = ext.length) (hc : Inv ⟨e.P, w, { x.callee ks with tk := fun _ => none }, ks.filterMap x.loc, [], []⟩ xc w' (zipExt 1000 out.ext)) (hrep : Rep xc out.res v) (d : Option Tmp) :
  ∃ x', After e x x' w' m v (callEff ks d out) := by
 obtain ⟨hl1, hget⟩ := cellsOf_get hext
 have hE := slots_at (x := x) hext
 unfold callEff
 split
 ·rename_i hx htok
  have hext0 : ext = [] := List.eq_nil_of_length_eq_zero (by rw [← hlen, hx]; rfl)
  have hks0 : ks = [] := List.eq_nil_of_length_eq_zero (by rw [← hl1, hext0]; rfl)
  have hc0 : Inv ⟨e.P, w, { x.callee ks with tk := fun _ => none }, ks.filterMap x.loc, [], []⟩ { xc with tk := fun _ => none } w' (zipExt 1000 out.ext) := by
   rw [hx] at hc ⊢
   refine ⟨hc.sub, fun k cs hk => by simp [zipExt, lookup] at hk, fun k k' cs cs' b hk => by simp [zipExt, lookup] at hk, fun k v sz hk => by simp at hk, fun k a n c sz j cs hk => by simp at hk, fun k k' a n c sz a' n' c' sz' hk => by simp at hk,
    hc.os, hc.tape, hc.output, hc.size, hc.old, hc.mono, hc.new, hc.ext, hc.low, hc.more.step (fun k b cs hk hb => ⟨cs, hk, hb, rfl, id, id⟩) (fun b arr ty hb => ⟨arr, hb, Nat.le_refl _⟩) (fun _ _ => rfl) rfl (Nat.le_refl _), hc.glob⟩
  obtain ⟨q1, q2, q3⟩ := hI.behind hnd hext (by rw [hlen]) hE hc0 (d.getD 0) [] x.tk (fun j z hj => .inr ⟨rfl, hj⟩) (fun j z _ hj => hj) (fun i z _ hz => by simp at hz) (fun b hb => by cases hb)
  refine ⟨_, (hrep.noTok htok).back q3, ?_, q2⟩
  rw [hx] at q1
  subst hks0
  simpa [zipW, writes, scrubM_nil] using q1
 ·generalize hD : d.getD 0 = D
  let tk' : Nat → Option (Value × List Kd) := fun j => if mem j (toks8 D) then xc.tk (j - (1000 + 8 * D)) else x.tk j
  have g1 : ∀ j z, tk' j = some z → (mem j (toks8 D) = true ∧ ∃ i, xc.tk i = some z ∧ j = 1000 + 8 * D + i) ∨ (mem j (toks8 D) = false ∧ x.tk j = some z) := by
   intro j z hj
   simp only [tk'] at hj
   split at hj
   ·rename_i hmj
    have := toks8_le D j hmj
    exact .inl ⟨hmj, _, hj, by omega⟩
   ·rename_i hmj
    exact .inr ⟨by simpa using hmj, hj⟩
  have g2 : ∀ j z, mem j (toks8 D) = false → x.tk j = some z → tk' j = some z := by
   intro j z hmj hj
   simp only [tk', hmj]; exact hj
  have g3 : ∀ i z, i < 8 → xc.tk i = some z → tk' (1000 + 8 * D + i) = some z := by
   intro i z hi hz
   simp only [tk', toks8_mem D i hi, if_true]
   rw [Nat.add_sub_cancel_left]; exact hz
  obtain ⟨q1, q2, q3⟩ := hI.behind hnd hext (by rw [hlen]) hE hc D (toks8 D) tk' g1 g2 g3 (fun b hb => by cases hb)
  exact ⟨_, hrep.back q3, q1.tidy, q2⟩
theorem mem_append {k : Nat} : ∀ {a b : List Nat}, mem k (a ++ b) = (mem k a || mem k b)
 |[], b => by simp [mem]
 |j :: a, b => by simp only [List.cons_append, mem, mem_append (a := a), Bool.or_assoc]
theorem after_lend (hI : Inv e x w m) {ks : List Nat} {ext : List (List AV)} (hnd : ks.Nodup) (hext : cellsOf m ks ks = some ext) {xc : X} {w' : World} {out : Out} {v : Value} {args : List AV} {vs : List Value} (hT : RepL x args vs)
  (hlen : out.ext.length = ext.length) (hc : Inv ⟨e.P, w, { x.callee ks with tk := lentTk args vs }, ks.filterMap x.loc, [], lentBlocks args vs⟩ xc w' (zipExt 1000 out.ext)) (hrep : Rep xc out.res v) (d : Option Tmp) :
  ∃ x', After e x x' w' m v (lendEff ks d (topToks args) out) := by
 have hE := slots_at (x := x) hext
 unfold lendEff
 generalize hD : d.getD 0 = D
 let tk' : Nat → Option (Value × List Kd) := fun j => if mem j (toks8 D) then xc.tk (j - (1000 + 8 * D)) else if mem j (topToks args) then none else x.tk j
 have g1 : ∀ j z, tk' j = some z → (mem j (topToks args ++ toks8 D) = true ∧ ∃ i, xc.tk i = some z ∧ j = 1000 + 8 * D + i) ∨ (mem j (topToks args ++ toks8 D) = false ∧ x.tk j = some z) := by
  intro j z hj
  simp only [tk'] at hj
  rw [mem_append]
  split at hj
  ·rename_i hmj
   have := toks8_le D j hmj
   exact .inl ⟨by simp [hmj], _, hj, by omega⟩
  ·rename_i hmj
   split at hj
   ·cases hj
   ·rename_i hmj2
    exact .inr ⟨by simp only [Bool.or_eq_false_iff]; exact ⟨by simpa using hmj2, by simpa using hmj⟩, hj⟩
 have g2 : ∀ j z, mem j (topToks args ++ toks8 D) = false → x.tk j = some z → tk' j = some z := by
  intro j z hmj hj
  rw [mem_append, Bool.or_eq_false_iff] at hmj
  simp only [tk', hmj.1, hmj.2]; exact hj
 have g3 : ∀ i z, i < 8 → xc.tk i = some z → tk' (1000 + 8 * D + i) = some z := by
  intro i z hi hz
  simp only [tk', toks8_mem D i hi, if_true]
  rw [Nat.add_sub_cancel_left]; exact hz
 obtain ⟨q1, q2, q3⟩ := hI.behind hnd hext (by rw [hlen]) hE hc D (topToks args ++ toks8 D) tk' g1 g2 g3 (fun b hb => by
  obtain ⟨j, a, n, c, sz, h1, h2, rfl⟩ := lentBlocks_get hb
  obtain ⟨k, b', h3, h4, h5⟩ := heldT_tok hT h1 h2
  exact ⟨k, a, n, c, sz, rfl, by rw [mem_append, mem_iff.2 (top_mem h4 h5)]; rfl, h3, h2⟩)
 exact ⟨_, hrep.back q3, q1.tidy, q2⟩

theorem after_new (hI : Inv e x w m) {ks : List Nat} {ext : List (List AV)} (hext : cellsOf m ks ks = some ext) {xc x0 : X} {w' : World} {out : Out} {v : Value} {R : Type} {d : Option Tmp} {k : Eff → Option R} {res : R}
  (hlen : ext.length < out.ext.length) (hup : Up { x.callee ks with tk := fun _ => none } x0 (1000 + ext.length)) (hc : Inv ⟨e.P, w, x0, ks.filterMap x.loc, [], []⟩ xc w' (dropNil (zipExt 1000 out.ext))) (hrep : Rep xc out.res v)
  (h : newE ks d out k = some res) : ∃ eff x', After e x x' w' m v eff ∧ k eff = some res := by
 unfold newE at h
 split at h
 ·rename_i D hpan
  split at h
  ·rename_i hcond
   simp only [Bool.and_eq_true] at hcond
   obtain ⟨⟨⟨h1, h2⟩, h3⟩, h4⟩ := hcond
   have hl1 := (cellsOf_get hext).1
   have hnd := nodup_iff h3
   have hnd' : (ks ++ newSlots D (out.ext.length - ks.length)).Nodup := by
    refine List.nodup_append.2 ⟨(List.nodup_append.1 hnd).2.1, (List.nodup_append.1 hnd).1, fun a ha b hb he => ?_⟩
    exact (List.nodup_append.1 hnd).2.2 b hb a ha he.symm
   obtain ⟨x', q1, q2, q3⟩ := hI.behindN hnd' hext (by rw [List.length_append, newSlots_len]; omega) (newSlots_lt (by simpa using h1) _ (by simpa using h2)) (allLt_mem h4) (hl1 ▸ hup) hc D
   have ha : After e x x' w' m v (.full (AV.back (ks ++ newSlots D (out.ext.length - ks.length)) D out.res) (newSlots D (out.ext.length - ks.length)) (toks8 D) (zipW (ks ++ newSlots D (out.ext.length - ks.length)) D (ks ++ newSlots D (out.ext.length - ks.length)) out.ext)) := ⟨hrep.back q3, q1, q2⟩
   exact ⟨_, x', ha, h⟩
  ·cases h
 ·cases h

theorem call_sound {Φ : Orc} (hΦ : ∀ (R : Type) (f : FuncId) (args : List AV) (ext : List (List AV)) (k : Out → Option R) (r : R), Φ.call R f args ext k = some r → ∃ out, Contract e.P f args ext out ∧ k out = some r)
  (hI : Inv e x w m) {R : Type} {d : Option Tmp} {f : FuncId} {args : List AV} {vs : List Value} {k kp : Eff → Option R} {res : R} (hr : RepL x args vs) (h : callE Φ m d f args k kp = some res) :
  (∃ fn, e.P.funcs[f]? = some fn ∧ fn.body.isSome = true ∧ fn.name ≠ "runtime.NumGoroutine") ∧
  Calls e.P f ⟨vs⟩ w fun en w' => ∃ eff x' v, After e x x' w' m v eff ∧ ((en = .returned v ∧ k eff = some res) ∨ (en = .panicked [{ v, recovered := false }] ∧ kp eff = some res)) := by
 unfold callE at h
 split at h
 ·obtain ⟨out, hcon, hk⟩ := hΦ R f _ _ _ res h
  obtain ⟨out_pan, out_res, hp, he, hr', hke⟩ : ∃ (u : Unit) (v : Value), out.pan = false ∧ out.ext = [] ∧ out.res = .dv (.val v) ∧ k (.pure (.dv (.val v))) = some res := by
   unfold lookOut at hk
   split at hk
   ·rename_i v h1 h2 h3; exact ⟨(), v, h2, h1, h3, hk⟩
   ·cases hk
  obtain ⟨hfn, hcon⟩ := hcon.ord (by rw [he]; exact Nat.le_refl _)
  refine ⟨hfn, ?_⟩
  refine (hcon w (x.looker w (slotBs x m)) [] [] vs (fun _ => ⟨rfl, fun _ => rfl⟩) (hI.looker _) (hr.look hI)).mono ?_
  rintro en w' ⟨xc, v, hlen, hen, hc, hrep⟩
  rw [he] at hc
  rw [hr'] at hrep
  rw [hp] at hen
  refine ⟨.pure (.dv (.val out_res)), x, v, ⟨?_, hI.looked hc, Ext.refl x _ _⟩, .inl ⟨by simpa using hen, hke⟩⟩
  cases hrep with
  |dv d v hd => cases hd with
   |val v hv => exact .dv _ _ (.val _ hv)
 simp only at h
 generalize hks : reach m (AV.slots args) = ks at h
 have hnd : ks.Nodup := by rw [← hks]; exact dedup_nodup _
 split at h
 ·rename_i ext hext
  split at h
  ·obtain ⟨out, hcon, hk⟩ := hΦ R f _ ext _ res h
   have hext1 := (cellsOf_get hext).1
   rcases hcon with ⟨hfn, hcon⟩ | ⟨hfn, hpn, hln, hcon⟩
   rotate_left
   ·refine ⟨hfn, ?_⟩
    have hpre := hI.enter hnd hext [] (ktk := fun _ => none) (L := []) (entry_pass hext _) (fun j a n c sz hj => by cases hj) (fun j j' a n c sz a' n' c' sz' hj => by cases hj) (fun b hb => by cases hb)
    refine (hcon w { x.callee ks with tk := fun _ => none } (ks.filterMap x.loc) vs (fun _ => rfl) hpre ((hr.passT (fun _ => none)).bare rfl ⟨rfl, rfl, rfl⟩)).mono ?_
    rintro en w' ⟨xc, x0, v, hen, hup, hc, hrep⟩
    have hble : Nat.ble out.ext.length ks.length = false := by
     rw [← Bool.not_eq_true, Nat.ble_eq]; omega
    rw [hble] at hk
    obtain ⟨eff, x', ha, hke⟩ := after_new hI hext hln hup hc hrep hk
    exact ⟨eff, x', v, ha, .inl ⟨hen, hke⟩⟩
   refine ⟨hfn, ?_⟩
   have hpre := hI.enter hnd hext [] (ktk := fun _ => none) (L := []) (entry_pass hext _) (fun j a n c sz hj => by cases hj) (fun j j' a n c sz a' n' c' sz' hj => by cases hj) (fun b hb => by cases hb)
   refine (hcon w { x.callee ks with tk := fun _ => none } (ks.filterMap x.loc) [] vs (fun _ => ⟨rfl, fun _ => rfl⟩) hpre ((hr.passT (fun _ => none)).bare rfl ⟨rfl, rfl, rfl⟩)).mono ?_
   rintro en w' ⟨xc, v, hlen, hen, hc, hrep⟩
   obtain ⟨x', hx'⟩ := after_call hI hnd hext hlen hc hrep d
   refine ⟨_, x', v, hx', ?_⟩
   have hble : Nat.ble out.ext.length ks.length = true := by rw [Nat.ble_eq]; omega
   rw [hble] at hk
   cases hp : out.pan with
   |false => simp only [hp] at hen hk; exact .inl ⟨by simpa using hen, hk⟩
   |true => simp only [hp] at hen hk; exact .inr ⟨by simpa using hen, hk⟩
  ·split at h
   ·rename_i hnt
    obtain ⟨out, hcon, hk⟩ := hΦ R f _ _ _ res h
    have hext1 := (cellsOf_get hext).1
    have hentl : (lendOf m ks args.length ks).length = ks.length := (entry_lend (T := args ++ catM m ks) (V := vs ++ slotVals x w m ks) hI ks args.length (fun k hk => by
     obtain ⟨i, hi⟩ := List.getElem?_of_mem hk
     obtain ⟨c0, h0, _⟩ := (cellsOf_get hext).2 i k hi
     exact ⟨c0, h0⟩) (fun q a h => by rw [List.getElem?_append_right (by omega), Nat.add_sub_cancel_left]; exact h) (fun q v h => by rw [List.getElem?_append_right (by have := hr.length; omega), ← hr.length, Nat.add_sub_cancel_left]; exact h)).1
    rcases hcon with ⟨hfn, hcon⟩ | ⟨hfn, hpn, hln, hcon⟩
    rotate_left
    ·have hble : Nat.ble out.ext.length ks.length = false := by
      rw [← Bool.not_eq_true, Nat.ble_eq]; omega
     rw [hble] at hk
     cases hk
    refine ⟨hfn, ?_⟩
    have hT : RepL x (args ++ catM m ks) (vs ++ slotVals x w m ks) := hr.append (slotVals_rep hI ks)
    have hent : EntryOk x w m ks (lentTk (args ++ catM m ks) (vs ++ slotVals x w m ks)) ks (lendOf m ks args.length ks) := entry_lend hI ks args.length (fun k hk => by
     obtain ⟨i, hi⟩ := List.getElem?_of_mem hk
     obtain ⟨c0, h0, _⟩ := (cellsOf_get hext).2 i k hi
     exact ⟨c0, h0⟩) (fun q a h => by rw [List.getElem?_append_right (by omega), Nat.add_sub_cancel_left]; exact h) (fun q v h => by rw [List.getElem?_append_right (by have := hr.length; omega), ← hr.length, Nat.add_sub_cancel_left]; exact h)
    have hget : ∀ j z, lentTk (args ++ catM m ks) (vs ++ slotVals x w m ks) j = some z → ∃ i, j = 500000 + i ∧ heldT (args ++ catM m ks) ⟨vs ++ slotVals x w m ks⟩ i = some z := by
     intro j z hj
     unfold lentTk at hj
     split at hj
     ·exact ⟨j - 500000, by omega, hj⟩
     ·cases hj
    have hpre := hI.enter hnd hext [] (ktk := lentTk (args ++ catM m ks) (vs ++ slotVals x w m ks)) (L := lentBlocks (args ++ catM m ks) (vs ++ slotVals x w m ks)) hent (fun j a n c sz hj hc => by
     obtain ⟨i, _, hi⟩ := hget j _ hj
     obtain ⟨k, _, h3, _⟩ := heldT_tok hT hi hc
     exact ⟨lentBlocks_mem hi hc, k, h3⟩) (fun j j' a n c sz a' n' c' sz' hj hj' hc hc' hab => by
     obtain ⟨i, rfl, hi⟩ := hget j _ hj
     obtain ⟨i', rfl, hi'⟩ := hget j' _ hj'
     obtain ⟨k, b, h3, h4, h5⟩ := heldT_tok hT hi hc
     obtain ⟨k', b', h3', h4', h5'⟩ := heldT_tok hT hi' hc'
     have := hI.toktok k k' a n c sz a' n' c' sz' h3 h3' hc hc' hab
     subst this
     rw [top_unique (nodup_iff hnt) h4 h4' h5 h5']) (fun b hb => by
     obtain ⟨j, a, n, c, sz, h1, h2, rfl⟩ := lentBlocks_get hb
     obtain ⟨k, b', h3, h4, h5⟩ := heldT_tok hT h1 h2
     exact ⟨k, a, n, c, sz, rfl, h3, h2⟩)
    refine (hcon w { x.callee ks with tk := lentTk (args ++ catM m ks) (vs ++ slotVals x w m ks) } (ks.filterMap x.loc) (lentBlocks (args ++ catM m ks) (vs ++ slotVals x w m ks)) vs (fun h => lent_none hT h) hpre (RepL.lend 0 hr fun q a v h1 h2 h3 => by rw [Nat.zero_add]; exact h3.lend (by rw [List.getElem?_append_left (List.getElem?_eq_some_iff.1 h1).1]; exact h1) (by rw [List.getElem?_append_left (List.getElem?_eq_some_iff.1 h2).1]; exact h2))).mono ?_
    rintro en w' ⟨xc, v, hlen, hen, hc, hrep⟩
    obtain ⟨x', hx'⟩ := after_lend hI hnd hext hT (by rw [hlen, hent.1, hext1]) hc hrep d
    refine ⟨_, x', v, hx', ?_⟩
    have hble : Nat.ble out.ext.length ks.length = true := by rw [Nat.ble_eq, hlen, hent.1]; omega
    rw [hble] at hk
    cases hp : out.pan with
    |false => simp only [hp] at hen hk; exact .inl ⟨by simpa using hen, hk⟩
    |true => simp only [hp] at hen hk; exact .inr ⟨by simpa using hen, hk⟩
   ·cases h
 ·cases h
end Go.Den
namespace Go.Den
variable {e : Env} {x : X} {w : World} {m : Mem} {tm : List AV} {a : Act} {next : Act → World → Prop} {Q : Exit → Act → World → Prop}

theorem find_fill (off : Nat) : ∀ (vs : List Value) (j : Nat) (cs : Array Value), off + j + vs.length ≤ cs.size →
    ((vs.zipIdx j).foldl (fun cs (p : Value × Nat) => cs.setIfInBounds (off + p.2) p.1) cs).toList = cs.toList.take (off + j) ++ vs ++ cs.toList.drop (off + j + vs.length)
  | [], j, cs, _ => by simp
  | v :: vs, j, cs, h => by
    simp only [List.zipIdx_cons, List.foldl_cons, List.length_cons] at h ⊢
    have ih := find_fill off vs (j + 1) (cs.setIfInBounds (off + j) v) (by simp; omega)
    rw [ih]
    simp only [Array.toList_setIfInBounds]
    have hlt : off + j < cs.toList.length := by rw [Array.length_toList]; omega
    have hlen : (cs.toList.take (off + j)).length = off + j := by rw [List.length_take]; omega
    rw [List.take_set, List.drop_set, if_pos (by omega), show off + (j + 1) = off + j + 1 by omega, List.take_succ_eq_append_getElem hlt, List.set_append_right _ _ (by omega), hlen, Nat.sub_self]
    simp only [List.set_cons_zero, List.append_assoc, List.singleton_append]
    rw [show off + j + 1 + vs.length = off + j + (vs.length + 1) by omega]

theorem fill_step {place : Nat → Option (Nat × Nat)} {cs : Array Value} {i off n : Nat} {v : Value} {rest : List (Nat × Value)} (hp : place i = some (off, n)) (hn : v.cells.size = n) (hle : off + n ≤ cs.size) :
    ∃ cs' : Array Value, cs'.toList = cs.toList.take off ++ v.cells.toList ++ cs.toList.drop (off + v.cells.toList.length) ∧ Instr.fill place cs ((i, v) :: rest) = Instr.fill place cs' rest := by
  have h := find_fill off v.cells.toList 0 cs (by simp only [Nat.add_zero, Array.length_toList]; omega)
  simp only [Nat.add_zero] at h
  refine ⟨_, h, ?_⟩
  have hc : ¬ (v.cells.size ≠ n || decide (off + v.cells.size > cs.size)) = true := by
    simp only [Bool.or_eq_true, decide_eq_true_eq]; omega
  simp only [Instr.fill, hp]
  rw [if_neg (by simpa using hc)]
  congr 1
  rw [← Array.foldl_toList]
  simp

theorem place_fill {P : Program} {t : TypeId} (hs : sized P t = true) : ∃ place : Nat → Option (Nat × Nat), (∀ i off n ty, place? P t i = some (off, n, ty) → place i = some (off, n)) ∧
    ∀ (i : TypeInfo) (z : Value) (ps : List (Nat × Value)) (cells : Array Value), P.info? t = some i → i.zero = some z → (∃ d, P.underlying t = some d ∧ ((∃ fs, d = .struct fs) ∨ ∃ l el, d = .array l el)) → 
      (∀ el l, P.underlying t = some (.array l el) → (P.info? el).isSome = true) → Instr.fill place z.cells ps = some cells → P.built t ps = some cells := by
  cases hu : P.underlying t with
  | none => exact ⟨fun _ => none, fun i off n ty h => by simp [place?, hu] at h, fun i z ps cells _ _ hd => by obtain ⟨d, hd, _⟩ := hd; cases hd⟩
  | some d =>
    cases d
    case struct fs =>
      unfold sized at hs
      rw [hu] at hs
      simp only [Option.isSome_iff_exists] at hs
      obtain ⟨places, hp⟩ := hs
      refine ⟨fun i => places[i]?, ?_, ?_⟩
      · intro i off n ty h
        simp only [place?, hu] at h
        split at h
        · rename_i f hf
          split at h
          · rename_i n' hn
            simp only [Option.some.injEq, Prod.mk.injEq] at h
            obtain ⟨rfl, rfl, rfl⟩ := h
            exact mapM_get hp (by rw [Array.getElem?_toList]; exact hf) (by unfold size? at hn; split at hn; · rename_i q hq; cases hn; rw [hq]; rfl
                                                                            · cases hn)
          · cases h
        · cases h
      · intro i z ps cells hi hz _ _ hf
        unfold Program.built
        simp only [hi, hu, hz, hp]
        simpa using hf
    case array l el =>
      refine ⟨fun i => match P.info? el with | some ie => some (i * ie.size, ie.size) | none => none, ?_, ?_⟩
      · intro i off n ty h
        simp only [place?, hu] at h
        split at h
        · rename_i n' hn
          simp only [Option.some.injEq, Prod.mk.injEq] at h
          obtain ⟨rfl, rfl, rfl⟩ := h
          unfold size? at hn
          split at hn
          · rename_i q hq; cases hn; simp only [hq]
          · cases hn
        · cases h
      · intro i z ps cells hi hz _ hel hf
        have := hel el l rfl
        obtain ⟨ie, hie⟩ := Option.isSome_iff_exists.1 this
        unfold Program.built
        simp only [hie] at hf
        simp only [hi, hu, hz, hie]
        exact hf
    all_goals exact ⟨fun _ => none, fun i off n ty h => by simp [place?, hu] at h, fun i z ps cells _ _ hd => by obtain ⟨d, hd, hd'⟩ := hd; cases hd; rcases hd' with ⟨_, h⟩ | ⟨_, _, h⟩ <;> cases h⟩
where mapM_get {P : Program} : ∀ {fs : List Field} {places : List (Nat × Nat)}, fs.mapM (fun f => (P.info? f.type).map fun i => (f.offset, i.size)) = some places → ∀ {i : Nat} {f : Field} {n : Nat}, fs[i]? = some f → (P.info? f.type).map (·.size) = some n → places[i]? = some (f.offset, n)
    | [], places, h, i, f, n, hf, _ => by simp at hf
    | g :: fs, places, h, i, f, n, hf, hn => by
      simp only [List.mapM_cons, Option.bind_eq_bind, Option.pure_def] at h
      cases hi : P.info? g.type with
      | none => simp [hi] at h
      | some q =>
        cases hr : fs.mapM (fun f => (P.info? f.type).map fun i => (f.offset, i.size)) with
        | none => simp [hi, hr] at h
        | some rest =>
          simp [hi, hr] at h
          subst h
          cases i with
          | zero => simp at hf; subst hf; simp [hi] at hn; simp [hn]
          | succ i => simp at hf; simpa using mapM_get hr hf hn

theorem parts_sound {P : Program} {t : TypeId} (hT : RepL x tm a.tmps.toList) {place : Nat → Option (Nat × Nat)} (hpl : ∀ i off n ty, place? P t i = some (off, n, ty) → place i = some (off, n)) :
    ∀ (ps : List (Nat × Operand)) {cs cs' : List AV} {us : Array Value}, parts P t tm ps cs = some cs' → RepL x cs us.toList → ∃ us' : Array Value, Instr.fill place us (ps.map fun p => (p.1, a.eval p.2)) = some us' ∧ RepL x cs' us'.toList
  | [], cs, cs', us, h, hr => by simp only [parts, Option.some.injEq] at h; subst h; exact ⟨us, rfl, hr⟩
  | (i, y) :: ps, cs, cs', us, h, hr => by
    simp only [parts] at h
    split at h
    · rename_i off n ty hp
      split at h
      · rename_i v hv
        split at h
        · rename_i new hnew
          split at h
          · rename_i hc
            simp only [Bool.and_eq_true, beq_eq, Nat.ble_eq] at hc
            have hrv := (evT_rep hT hv).cells' hnew
            have hl1 := hrv.length
            have hl2 : cs.length = us.size := by rw [← Array.length_toList]; exact hr.length
            obtain ⟨us1, h1, h2⟩ := fill_step (rest := ps.map fun p => (p.1, a.eval p.2)) (hpl i off n ty hp) (cs := us) (v := a.eval y) (by rw [← Array.length_toList]; omega) (by omega)
            have hr1 : RepL x (splice cs off new) us1.toList := by
              rw [h1]; unfold splice; rw [hl1]
              exact ((hr.take off).append hrv).append (hr.drop _)
            obtain ⟨us', h3, h4⟩ := parts_sound hT hpl ps h hr1
            exact ⟨us', by rw [List.map_cons, h2]; exact h3, h4⟩
          · cases h
        · cases h
      · cases h
    · cases h

theorem build_sound {P : Program} {t : TypeId} (hT : RepL x tm a.tmps.toList) {ps : Array (Nat × Operand)} {cs cs' : List AV} (hz : zeroOf P t = some cs) (hs : sized P t = true) (hp : parts P t tm ps.toList cs = some cs') :
    ∃ us : Array Value, (Instr.build t (ps.map fun p => (p.1, a.eval p.2))).run P w = .ok (.agg us) w ∧ RepL x cs' us.toList := by
  obtain ⟨i, z, hi, hzz, hr⟩ := zeroOf_rep x hz
  obtain ⟨place, h1, h2⟩ := place_fill hs
  obtain ⟨us, h3, h4⟩ := parts_sound hT h1 ps.toList hp hr
  refine ⟨us, ?_, h4⟩
  refine run_build w t _ us (h2 i z _ us hi hzz ?_ ?_ (by rw [Array.toList_map]; exact h3))
  · unfold sized at hs
    split at hs
    · rename_i fs hu; exact ⟨_, hu, .inl ⟨fs, rfl⟩⟩
    · rename_i l el hu; exact ⟨_, hu, .inr ⟨l, el, rfl⟩⟩
    · cases hs
  · intro el l hu
    unfold sized at hs
    rw [hu] at hs
    exact hs

theorem Row.toCells {M : Mm} : ∀ {l : List AV} {vs : List Value} {r : Row}, RepL x l vs → x.M = M → AV.flats l = some r → r.length = vs.length ∧ ∀ (j : Nat) (d : DV), r[j]? = some d → ∃ v, vs[j]? = some v ∧ RepD M d v
  | _, _, _, .nil, _, h => by simp only [AV.flats, Option.some.injEq] at h; subst h; simp
  | _, _, _, .cons b v l vs hb hl, hM, h => by
    simp only [AV.flats] at h
    split at h
    · rename_i d hd
      split at h
      · rename_i r hr
        cases h
        obtain ⟨h1, h2⟩ := Row.toCells hl hM hr
        refine ⟨by simp [h1], ?_⟩
        intro j d' hj
        cases j with
        | zero =>
          simp at hj; subst hj
          refine ⟨v, rfl, ?_⟩
          cases hb with
          | dv d2 v hh => simp only [AV.flat, Option.some.injEq] at hd; subst hd; rw [← hM]; exact hh
          | sl n ks rows rt v hh _ => simp only [AV.flat, Option.some.injEq] at hd; subst hd; rw [← hM]; exact hh
          | _ => simp [AV.flat] at hd
        | succ j => simp at hj; simpa using h2 j d' hj
      · cases h
    · cases h
theorem AV.row_rep {av : AV} {v : Value} {r : Row} (h : Rep x av v) (hr : av.row = some r) : r.length = v.cells.size ∧ ∀ (j : Nat) (d : DV), r[j]? = some d → ∃ u, v.cells.toList[j]? = some u ∧ RepD x.M d u := by
  cases h with
  | agg cs vs hh =>
    obtain ⟨h1, h2⟩ := Row.toCells hh rfl hr
    exact ⟨by simpa [Value.cells] using h1, h2⟩
  | dv d v hh =>
    simp only [AV.row, AV.flat, Option.some.injEq] at hr; subst hr
    have h5 : v.oneCell' = true := RepD.one hh
    cases v <;> first
      | (simp [Value.oneCell'] at h5; done)
      | (refine ⟨rfl, fun j d' hj => ?_⟩
         cases j with
         | zero => simp at hj; subst hj; exact ⟨_, rfl, hh⟩
         | succ j => simp at hj)
  | sl n ks rows rt v hh _ =>
    simp only [AV.row, AV.flat, Option.some.injEq] at hr; subst hr
    have h5 : v.oneCell' = true := RepD.one hh
    cases v <;> first
      | (simp [Value.oneCell'] at h5; done)
      | (refine ⟨rfl, fun j d' hj => ?_⟩
         cases j with
         | zero => simp at hj; subst hj; exact ⟨_, rfl, hh⟩
         | succ j => simp at hj)
  | tup => simp [AV.row, AV.flat] at hr
  | pl => simp [AV.row, AV.flat] at hr
  | pv => simp [AV.row, AV.flat] at hr
  | fn => simp [AV.row, AV.flat] at hr
  | ifc => simp [AV.row, AV.flat] at hr
  | ms => simp [AV.row, AV.flat] at hr
  | pa => simp [AV.row, AV.flat] at hr
  | junk => simp [AV.row, AV.flat] at hr

def RowsV (M : Mm) (ks : List Kd) (rows : Rows) (vs : List Value) : Prop :=
  vs.length = rows.length * ks.length ∧ ∀ (i : Nat) (r : Row), rows[i]? = some r → Row.ofKds ks r = true ∧ ∀ (j : Nat) (d : DV), r[j]? = some d → ∃ u, vs[i * ks.length + j]? = some u ∧ RepD M d u

theorem rows_sound {P : Program} {el : TypeId} {ks : List Kd} (hT : RepL x tm a.tmps.toList) :
    ∀ (ps : List (Nat × Operand)) {rows rows' : Rows} {us : Array Value}, rowsOf P el ks tm ps rows = some rows' → RowsV x.M ks rows us.toList →
      ∃ us' : Array Value, Instr.fill (fun i => some (i * ks.length, ks.length)) us (ps.map fun p => (p.1, a.eval p.2)) = some us' ∧ RowsV x.M ks rows' us'.toList ∧ rows'.length = rows.length
  | [], rows, rows', us, h, hr => by simp only [rowsOf, Option.some.injEq] at h; subst h; exact ⟨us, rfl, hr, rfl⟩
  | (i, y) :: ps, rows, rows', us, h, hr => by
    simp only [rowsOf] at h
    split at h
    · rename_i v hv
      split at h
      · rename_i r hrow
        split at h
        · rename_i hc
          simp only [Bool.and_eq_true] at hc
          obtain ⟨hof, hlt⟩ := hc
          have hlt : i < rows.length := by simpa using hlt
          obtain ⟨hl, hcell⟩ := AV.row_rep (evT_rep hT hv) hrow
          have hrl := Row.ofKds_length hof
          obtain ⟨hvl, hvr⟩ := hr
          have hus : us.size = rows.length * ks.length := by rw [← Array.length_toList]; exact hvl
          have hmul : (i + 1) * ks.length ≤ rows.length * ks.length := Nat.mul_le_mul_right _ hlt
          rw [Nat.add_mul, Nat.one_mul] at hmul
          obtain ⟨us1, h1, h2⟩ := fill_step (place := fun i => some (i * ks.length, ks.length)) (rest := ps.map fun p => (p.1, a.eval p.2)) (i := i) (off := i * ks.length) (n := ks.length) rfl (cs := us) (v := a.eval y) (by omega) (by omega)
          have hcl : (a.eval y).cells.toList.length = ks.length := by rw [Array.length_toList]; omega
          have hr1 : RowsV x.M ks (rows.set i r) us1.toList := by
            rw [h1]
            refine ⟨by simp only [List.length_append, List.length_take, List.length_drop, List.length_set]; omega, ?_⟩
            intro q r' hq
            by_cases hqi : q = i
            · subst hqi
              rw [List.getElem?_set_self (by omega)] at hq
              obtain rfl := Option.some.inj hq
              refine ⟨hof, fun j d hj => ?_⟩
              obtain ⟨u, hu, hd⟩ := hcell j d hj
              refine ⟨u, ?_, hd⟩
              have hjl : j < (a.eval y).cells.toList.length := (List.getElem?_eq_some_iff.1 hu).1
              rw [List.append_assoc, List.getElem?_append_right (by simp only [List.length_take]; omega)]
              have e0 : q * ks.length + j - (us.toList.take (q * ks.length)).length = j := by simp only [List.length_take]; omega
              rw [e0, List.getElem?_append_left hjl]; exact hu
            · rw [List.getElem?_set_ne (by omega)] at hq
              obtain ⟨h5, h6⟩ := hvr q r' hq
              refine ⟨h5, fun j d hj => ?_⟩
              obtain ⟨u, hu, hd⟩ := h6 j d hj
              refine ⟨u, ?_, hd⟩
              have hjl : j < ks.length := by rw [← Row.ofKds_length h5]; exact (List.getElem?_eq_some_iff.1 hj).1
              have hul : q * ks.length + j < us.toList.length := (List.getElem?_eq_some_iff.1 hu).1
              rw [List.append_assoc]
              by_cases hlt2 : q < i
              · have : (q + 1) * ks.length ≤ i * ks.length := Nat.mul_le_mul_right _ hlt2
                rw [Nat.add_mul, Nat.one_mul] at this
                rw [List.getElem?_append_left (by simp only [List.length_take]; omega), List.getElem?_take, if_pos (by omega)]; exact hu
              · have : (i + 1) * ks.length ≤ q * ks.length := Nat.mul_le_mul_right _ (by omega)
                rw [Nat.add_mul, Nat.one_mul] at this
                rw [List.getElem?_append_right (by simp only [List.length_take]; omega), List.getElem?_append_right (by simp only [List.length_take]; omega), List.getElem?_drop]
                have e0 : i * ks.length + (a.eval y).cells.toList.length + (q * ks.length + j - (us.toList.take (i * ks.length)).length - (a.eval y).cells.toList.length) = q * ks.length + j := by
                  simp only [List.length_take]; omega
                rw [e0]; exact hu
          obtain ⟨us', h3, h4, h5⟩ := rows_sound hT ps h hr1
          exact ⟨us', by rw [List.map_cons, h2]; exact h3, h4, by rw [h5, List.length_set]⟩
        · cases h
      · cases h
    · cases h

theorem RowsV.at {M M' : Mm} (hs : Sub M M') {ks : List Kd} : ∀ {rows : Rows} {vs : List Value}, RowsV M ks rows vs → ∀ (b o : Nat), (∀ (j : Nat) (u : Value), vs[j]? = some u → M' b (o + j) = some u) → RowsAt M' b o ks rows
  | [], vs, h, b, o, hm => .nil b o ks
  | r :: rows, vs, ⟨h1, h2⟩, b, o, hm => by
    obtain ⟨h3, h4⟩ := h2 0 r rfl
    refine .cons b o ks r rows h3 (RowsV.cells hs (vs := vs) (fun j d hj => by simpa using h4 j d hj) b o hm) ?_
    refine RowsV.at hs (vs := vs.drop ks.length) ⟨by simp only [List.length_drop, h1, List.length_cons, Nat.add_mul, Nat.one_mul]; omega, ?_⟩ b (o + ks.length) ?_
    · intro i r' hi
      obtain ⟨h5, h6⟩ := h2 (i + 1) r' (by simpa using hi)
      refine ⟨h5, fun j d hj => ?_⟩
      obtain ⟨u, hu, hd⟩ := h6 j d hj
      refine ⟨u, ?_, hd⟩
      rw [List.getElem?_drop, ← hu, Nat.add_mul, Nat.one_mul]; congr 1; omega
    · intro j u hj
      rw [List.getElem?_drop] at hj
      have := hm _ u hj
      rw [← this]; congr 1; omega
where RowsV.cells {M M' : Mm} (hs : Sub M M') : ∀ {r : Row} {vs : List Value}, (∀ (j : Nat) (d : DV), r[j]? = some d → ∃ u, vs[j]? = some u ∧ RepD M d u) → ∀ (b o : Nat), (∀ (j : Nat) (u : Value), vs[j]? = some u → M' b (o + j) = some u) → CellsAt M' b o r
    | [], vs, h, b, o, hm => .nil b o
    | d :: r, vs, h, b, o, hm => by
      obtain ⟨u, hu, hd⟩ := h 0 d rfl
      refine .cons b o d u r (by simpa using hm 0 u hu) (hd.mono hs) (RowsV.cells hs (vs := vs.drop 1) (fun j d' hj => ?_) b (o + 1) fun j v hj => ?_)
      · obtain ⟨v, hv, hd'⟩ := h (j + 1) d' (by simpa using hj)
        exact ⟨v, by rw [List.getElem?_drop, ← hv]; congr 1; omega, hd'⟩
      · rw [List.getElem?_drop] at hj
        have := hm _ v hj
        rw [← this]; congr 1; omega
end Go.Den
namespace Go.Den
variable {e : Env} {x : X} {w : World} {m : Mem} {tm : List AV} {a : Act} {next : Act → World → Prop} {Q : Exit → Act → World → Prop}

theorem bound_rep {ov : Option AV} {d l : Int} {vv : Option Value} (h : bound ov d = some l) (hr : ∀ v, ov = some v → ∃ u, vv = some u ∧ Rep x v u) (hn : ov = none → vv = none) :
  (vv = none ∧ ov = none ∧ l = d) ∨ ∃ k, vv = some (.int k l) ∧ ov.isSome = true := by
 unfold bound at h
 split at h
 ·left; exact ⟨hn rfl, rfl, (Option.some.inj h).symm⟩
 ·rename_i k n
  right
  obtain ⟨u, h1, h2⟩ := hr _ rfl
  obtain rfl := Rep.val h2
  cases h
  exact ⟨k, h1, rfl⟩
 ·cases h

theorem run_bounds {P : Program} (isSlice : Bool) (len cap : Nat) (lo hi : Option Value) (l h : Int) (hlo : (lo = none ∧ l = 0) ∨ ∃ k, lo = some (.int k l)) (hhi : (hi = none ∧ h = len) ∨ ∃ k, hi = some (.int k h))
  (h0 : 0 ≤ l) (h1 : l ≤ h) (h2 : h ≤ cap) : (Instr.sliceBounds isSlice len cap lo hi none).run P w = .ok (l.toNat, h.toNat, cap) w := by
 have e1 : (h.toNat : Int) = h := by omega
 rcases hlo with ⟨rfl, rfl⟩ | ⟨k, rfl⟩ <;> rcases hhi with ⟨rfl, rfl⟩ | ⟨j, rfl⟩ <;>
  simp [Instr.sliceBounds, Instr.sliceBound, asIntOf, *] <;> omega

theorem evO_rep {P : Program} (hT : RepL x tm a.tmps.toList) {o : Option Operand} {ov : Option AV} (h : evO P tm o = some ov) :
  (∀ v, ov = some v → ∃ u, o.map a.eval = some u ∧ Rep x v u) ∧ (ov = none → o.map a.eval = none) := by
 cases o with
 |none => simp only [evO, Option.some.injEq] at h; subst h; simp
 |some y =>
  simp only [evO] at h
  split at h
  ·rename_i v hv
   cases h
   exact ⟨fun v' hv' => by cases hv'; exact ⟨_, rfl, evT_rep hT hv⟩, fun hh => by cases hh⟩
  ·cases h

theorem sliced_rep {n : Bool} {ks : List Kd} {rows : Rows} {r : Right} {u : Value} (hr : Rep x (.sl n ks rows r) u) :
  ∃ ad c, u = .slice ad rows.length c ∧ rows.length ≤ c ∧ (r = .ex → c = rows.length) ∧ ∀ (l h q : Nat) (rt : Right), l ≤ h → h ≤ rows.length → h ≤ q → q ≤ c → (rt = .ex → q = h) → (rt = .no ∨ rt = .ex) →
   Rep x (.sl n ks ((rows.take h).drop l) rt) (sliced ad l h q ks.length) := by
 cases hr with
 |sl _ _ _ _ _ hd hrt =>
 have hex : ∀ ad c, u = .slice ad rows.length c → r = .ex → c = rows.length := by
  intro ad c hu hr
  subst hr
  obtain ⟨a', n', h1⟩ := hrt
  rw [hu] at h1
  injection h1 with _ h2 h3
  omega
 have hright : ∀ (rt : Right) (l h q : Nat) (ad : Option Addr), l ≤ h → (rt = .ex → q = h) → (rt = .no ∨ rt = .ex) → ∀ d, RtOk x rt d (sliced ad l h q ks.length) ks := by
  intro rt l h q ad hlh h1 h2 d
  cases rt with
  |no => trivial
  |ex => obtain rfl := h1 rfl; exact ⟨_, _, rfl⟩
  |tok k => simp at h2
  |old => simp at h2
 rcases hd.rows with ⟨hn, rfl, rfl⟩ | ⟨ad, c, hn, rfl, hc, hsp, hro⟩
 ·refine ⟨none, 0, rfl, Nat.le_refl _, fun _ => rfl, fun l h q rt hlh hh hhq hqc h1 h2 => ?_⟩
  simp only [List.length_nil] at hh
  obtain rfl : h = 0 := by omega
  obtain rfl : l = 0 := by omega
  obtain rfl : q = 0 := by omega
  subst hn
  exact .sl _ _ _ _ _ (by simpa [sliced] using RepD.nil ks) (hright rt 0 0 0 none (Nat.le_refl _) h1 h2 _)
 ·refine ⟨some ad, c, rfl, hc, hex _ _ rfl, fun l h q rt hlh hh hhq hqc h1 h2 => ?_⟩
  subst hn
  refine .sl _ _ _ _ _ ?_ (hright rt l h q _ hlh h1 h2 _)
  have hlen : ((rows.take h).drop l).length = h - l := by rw [List.length_drop, List.length_take]; omega
  unfold sliced
  by_cases hql : q = l
  ·rw [if_pos hql]
   have hnil : (rows.take h).drop l = [] := List.eq_nil_of_length_eq_zero (by omega)
   rw [hnil, show h - l = ([] : Rows).length by simp; omega]
   exact .sl ks [] ad _ (by simp) (fun hh => absurd rfl hh) (.nil _ _ _)
  ·rw [if_neg hql, ← hlen]
   simp only [Option.map_some]
   by_cases hrows : rows = []
   ·subst hrows
    simp only [List.take_nil, List.drop_nil, List.length_nil]
    exact .sl ks [] _ _ (by simp) (fun hh => absurd rfl hh) (.nil _ _ _)
   ·have hs := hsp hrows
    rw [add_addr hs]
    refine .sl ks _ ⟨ad.block, ad.off + l * ks.length, none⟩ _ (by rw [hlen]; omega) (fun _ => rfl) ?_
    exact (hro.take h).drop l (by rw [List.length_take]; omega)

theorem slice_sound {R : Type} {t el : TypeId} {n : Bool} {ks : List Kd} {rows : Rows} {r : Right} {u : Value} {lo hi mx : Option AV} {lov hiv mxv : Option Value} {k : Eff → Option R} {res : R}
  {P : Program} (ht : P.underlying t = some (.slice el)) (hsz : size? P el = some ks.length)
  (hlo : (∀ v, lo = some v → ∃ u, lov = some u ∧ Rep x v u) ∧ (lo = none → lov = none)) (hhi : (∀ v, hi = some v → ∃ u, hiv = some u ∧ Rep x v u) ∧ (hi = none → hiv = none)) (hmx : (∀ v, mx = some v → ∃ u, mxv = some u ∧ Rep x v u) ∧ (mx = none → mxv = none))
  (hr : Rep x (.sl n ks rows r) u) (h : sliceE (.sl n ks rows r) lo hi mx k = some res) :
  ∃ v z, k (.pure v) = some res ∧ Rep x v z ∧ (Instr.sliceAt t u lov hiv mxv).run P w = .ok z w := by
 have hel : P.elem t = el := by simp [Program.elem, ht]
 have ht' : P.underlying t = some (.slice (P.elem t)) := by rw [hel]; exact ht
 obtain ⟨ad, c, rfl, hc, hex, hrep⟩ := sliced_rep hr
 rw [run_sliceAt_slice w t _ lov hiv mxv ht']
 unfold sliceE at h
 simp only at h
 split at h
 ·-- no third index
  rename_i hm
  rw [hmx.2 rfl]
  split at h
  ·rename_i l hh hl hh'
   split at h
   ·rename_i h0
    split at h
    ·rename_i h1
     split at h
     ·rename_i h2
      refine ⟨_, _, h, hrep l.toNat hh.toNat c _ (by omega) (by omega) (by omega) (Nat.le_refl _) ?_ ?_, ?_⟩
      ·intro he
       split at he
       ·have := hex rfl
        simp only [bound, Option.some.injEq] at hh'
        omega
       ·cases he
      ·split
       ·exact .inr rfl
       ·exact .inl rfl
      ·have hb := run_bounds (P := P) (w := w) true rows.length c lov hiv l hh
        (by rcases bound_rep hl hlo.1 hlo.2 with ⟨q1, _, q2⟩ | ⟨k, q1, _⟩; exact .inl ⟨q1, q2⟩; exact .inr ⟨k, q1⟩)
        (by rcases bound_rep hh' hhi.1 hhi.2 with ⟨q1, _, q2⟩ | ⟨k, q1, _⟩; exact .inl ⟨q1, q2⟩; exact .inr ⟨k, q1⟩) h0 h1 (by omega)
       rw [run_slice_any w t ad _ c ht' lov hiv none, hb]
       simp only [Result.andThen_ok]
       rw [hel, run_size hsz]
       simp
     ·cases h
    ·cases h
   ·cases h
  ·cases h
 ·rename_i j q
  obtain ⟨uq, huq, hruq⟩ := hmx.1 _ rfl
  obtain rfl := Rep.val hruq
  rw [huq]
  split at h
  ·rename_i l j2 hh hl
   obtain ⟨uh, huh, hruh⟩ := hhi.1 _ rfl
   obtain rfl := Rep.val hruh
   rw [huh]
   split at h
   ·rename_i h0
    split at h
    ·rename_i h1
     split at h
     ·rename_i h2
      split at h
      ·rename_i h3
       refine ⟨_, _, h, hrep l.toNat hh.toNat q.toNat _ (by omega) (by omega) (by omega) (by omega) ?_ ?_, ?_⟩
       ·intro he
        split at he
        ·omega
        ·cases he
       ·split
        ·exact .inr rfl
        ·exact .inl rfl
       ·have hb : (Instr.sliceBounds true rows.length c lov (some (.int j2 hh)) (some (.int j q))).run P w = .ok (l.toNat, hh.toNat, q.toNat) w := by
         have e1 : (hh.toNat : Int) = hh := by omega
         have e2 : (q.toNat : Int) = q := by omega
         have e3 : q ≤ (c : Int) := by omega
         have e4 : 0 ≤ q := by omega
         have e5 : 0 ≤ hh := by omega
         rcases bound_rep hl hlo.1 hlo.2 with ⟨q1, _, q2⟩ | ⟨k, q1, _⟩
         ·subst q2; rw [q1]
          simp [Instr.sliceBounds, Instr.sliceBound, asIntOf, *]
         ·rw [q1]
          simp [Instr.sliceBounds, Instr.sliceBound, asIntOf, *]
        rw [run_slice_any w t ad _ c ht' _ _ _, hb]
        simp only [Result.andThen_ok]
        rw [hel, run_size hsz]
        simp
      ·cases h
     ·cases h
    ·cases h
   ·cases h
  ·cases h
 ·cases h

theorem sliceStr_sound {R : Type} {t : TypeId} {s : ByteArray} {lo hi mx : Option AV} {lov hiv mxv : Option Value} {k : Eff → Option R} {res : R}
  {P : Program} (ht : P.underlying t = some .string)
  (hlo : (∀ v, lo = some v → ∃ u, lov = some u ∧ Rep x v u) ∧ (lo = none → lov = none)) (hhi : (∀ v, hi = some v → ∃ u, hiv = some u ∧ Rep x v u) ∧ (hi = none → hiv = none)) (hmx : (∀ v, mx = some v → ∃ u, mxv = some u ∧ Rep x v u) ∧ (mx = none → mxv = none))
  (h : sliceE (.S s) lo hi mx k = some res) :
  ∃ v z, k (.pure v) = some res ∧ Rep x v z ∧ (Instr.sliceAt t (.string s) lov hiv mxv).run P w = .ok z w := by
 rw [run_sliceAt_string w t _ lov hiv mxv ht]
 unfold sliceE at h
 simp only at h
 split at h
 ·rename_i l hh hl hh'
  rw [hmx.2 rfl]
  split at h
  ·rename_i h0
   split at h
   ·rename_i h1
    split at h
    ·rename_i h2
     refine ⟨_, .string (s.extract l.toNat hh.toNat), h, rep_val x rfl, ?_⟩
     have hb := run_bounds (P := P) (w := w) false s.size s.size lov hiv l hh
      (by rcases bound_rep hl hlo.1 hlo.2 with ⟨q1, _, q2⟩ | ⟨k, q1, _⟩; exact .inl ⟨q1, q2⟩; exact .inr ⟨k, q1⟩)
      (by rcases bound_rep hh' hhi.1 hhi.2 with ⟨q1, _, q2⟩ | ⟨k, q1, _⟩; exact .inl ⟨q1, q2⟩; exact .inr ⟨k, q1⟩) h0 h1 h2
     simp [Instr.slice, run_underlying ht, hb]
    ·cases h
   ·cases h
  ·cases h
 ·cases h

theorem push_all (f : Int → UInt8) : ∀ (ns : List Int) (s : ByteArray), ns.foldl (fun r n => r.push (f n)) s = ⟨s.data ++ (ns.map f).toArray⟩
 |[], s => by simp
 |n :: ns, s => by
  rw [List.foldl_cons, push_all f ns]
  congr 1
  apply Array.ext'
  simp [ByteArray.push]

theorem bytes_sound (hI : Inv e x w m) {n : Bool} {rows : Rows} {r : Right} {u : Value} (hr : Rep x (.sl n [.i .u8] rows r) u) : (Conv.bytesToString u).run e.P w = .ok (.string (bytesOf rows)) w := by
 cases hr with
 |sl _ _ _ _ _ hd _ =>
 rcases hd.rows with ⟨_, rfl, rfl⟩ | ⟨ad, c, _, rfl, hc, hsp, hro⟩
 ·rfl
 ·have hcell : ∀ i, i < rows.length → x.M ad.block (ad.off + i) = some (.int .u8 (Row.I (rows.getD i []) 0)) := by
   intro i hi
   obtain ⟨h1, h2⟩ := hro.get hi
   obtain ⟨v, hv, hr⟩ := Rep.cell h1 h2 (j := 0) (k := .i .u8) rfl
   simp only [List.length_cons, List.length_nil, Nat.zero_add, Nat.mul_one, Nat.add_zero] at hv
   obtain rfl := Rep.val hr
   exact hv
  have hload := run_loadCells_list (P := e.P) w ad ((rows.map fun r => Row.I r 0).map (Value.int .u8)) (by
   intro j v hj
   rw [List.map_map, List.getElem?_map] at hj
   obtain ⟨r0, h1, rfl⟩ := Option.map_eq_some_iff.1 hj
   have hlt : j < rows.length := (List.getElem?_eq_some_iff.1 h1).1
   have hne : rows ≠ [] := fun hh => by subst hh; simp at hlt
   rw [add_addr (hsp hne)]
   have := hI.sub _ _ _ (hcell j hlt)
   rw [this]
   simp [List.getD, h1])
  simp only [List.length_map] at hload
  rw [run_bytesToString w ad rows.length c (rows.map fun r => Row.I r 0) hload, push_all fun n => UInt8.ofNat n.toNat]
  congr 2
  unfold bytesOf
  congr 1
  simp [List.map_map, Function.comp_def]

theorem RowsV.arr {M : Mm} {ks : List Kd} : ∀ {rows : Rows} {vs : List Value}, RowsV M ks rows vs → ArrV M ks rows vs
 |[], vs, ⟨h1, _⟩ => by
  have : vs = [] := List.eq_nil_of_length_eq_zero (by simpa using h1)
  subst this; exact .nil _
 |r :: rows, vs, ⟨h1, h2⟩ => by
  obtain ⟨h3, h4⟩ := h2 0 r rfl
  have hrl := Row.ofKds_length h3
  simp only [List.length_cons, Nat.add_mul, Nat.one_mul] at h1
  have hsplit : vs = vs.take ks.length ++ vs.drop ks.length := (List.take_append_drop _ _).symm
  have tail : ArrV M ks rows (vs.drop ks.length) := by
   refine RowsV.arr ⟨by rw [List.length_drop]; omega, ?_⟩
   intro i r' hi
   obtain ⟨h5, h6⟩ := h2 (i + 1) r' (by simpa using hi)
   refine ⟨h5, fun j d hj => ?_⟩
   obtain ⟨u, hu, hd⟩ := h6 j d hj
   refine ⟨u, ?_, hd⟩
   rw [List.getElem?_drop, ← hu, Nat.add_mul, Nat.one_mul]; congr 1; omega
  rw [hsplit]
  refine .cons r _ rows _ h3 (RowsV.cellsV (by rw [List.length_take]; omega) fun j d hj => ?_) tail
  obtain ⟨u, hu, hd⟩ := h4 j d hj
  have hjl : j < r.length := (List.getElem?_eq_some_iff.1 hj).1
  exact ⟨u, by rw [List.getElem?_take, if_pos (by omega)]; simpa using hu, hd⟩
where RowsV.cellsV {M : Mm} : ∀ {r : Row} {vs : List Value}, r.length = vs.length → (∀ (j : Nat) (d : DV), r[j]? = some d → ∃ u, vs[j]? = some u ∧ RepD M d u) → CellsV M r vs
  |[], [], _, _ => .nil
  |[], _ :: _, h, _ => by simp at h
  |_ :: _, [], h, _ => by simp at h
  |d :: r, v :: vs, h, hc => by
   obtain ⟨u, hu, hd⟩ := hc 0 d rfl
   simp at hu; subst hu
   exact .cons d v r vs hd (RowsV.cellsV (by simpa using h) fun j d' hj => by simpa using hc (j + 1) d' (by simpa using hj))

theorem sliceMs_sound {R : Type} {t el : TypeId} {j off n c : Nat} {ks : List Kd} {u : Value} {lo hi mx : Option AV} {lov hiv mxv : Option Value} {k : Eff → Option R} {res : R}
  {P : Program} (ht : P.underlying t = some (.slice el)) (hsz : size? P el = some ks.length)
  (hlo : (∀ v, lo = some v → ∃ u, lov = some u ∧ Rep x v u) ∧ (lo = none → lov = none)) (hhi : (∀ v, hi = some v → ∃ u, hiv = some u ∧ Rep x v u) ∧ (hi = none → hiv = none)) (hmx : (∀ v, mx = some v → ∃ u, mxv = some u ∧ Rep x v u) ∧ (mx = none → mxv = none))
  (hr : Rep x (.ms j ks off n c) u) (h : sliceE (.ms j ks off n c) lo hi mx k = some res) :
  ∃ v z, k (.pure v) = some res ∧ Rep x v z ∧ (Instr.sliceAt t u lov hiv mxv).run P w = .ok z w := by
 have hel : P.elem t = el := by simp [Program.elem, ht]
 have ht' : P.underlying t = some (.slice (P.elem t)) := by rw [hel]; exact ht
 cases hr with | ms _ _ _ _ _ b o c' hb g1 g2 g3 => ?_
 rw [run_sliceAt_slice w t _ lov hiv mxv ht']
 unfold sliceE at h
 simp only at h
 split at h
 ·rename_i l hh hl hh'
  rw [hmx.2 rfl]
  split at h
  ·rename_i h0
   split at h
   ·rename_i h1
    split at h
    ·rename_i h2
     have hb' := run_bounds (P := P) (w := w) true n c' lov hiv l hh
      (by rcases bound_rep hl hlo.1 hlo.2 with ⟨q1, _, q2⟩ | ⟨k, q1, _⟩; exact .inl ⟨q1, q2⟩; exact .inr ⟨k, q1⟩)
      (by rcases bound_rep hh' hhi.1 hhi.2 with ⟨q1, _, q2⟩ | ⟨k, q1, _⟩; exact .inl ⟨q1, q2⟩; exact .inr ⟨k, q1⟩) h0 h1 (by omega)
     refine ⟨_, _, h, ?_, by rw [run_slice_any w t (some ⟨b, o, none⟩) _ c' ht' lov hiv none, hb']; simp only [Result.andThen_ok]; rw [hel, run_size hsz]; rfl⟩
     unfold sliced
     by_cases hq : c' = l.toNat
     ·rw [if_pos hq]
      exact .ms j ks _ _ _ b o _ hb (by omega) (fun h => by omega) ⟨by omega, by subst hq; simp only [Nat.sub_self, Nat.zero_mul]; omega, by omega⟩
     ·rw [if_neg hq]
      simp only [Option.map_some]
      rw [add_addr rfl]
      refine .ms j ks _ _ _ b _ _ hb (by omega) (fun _ => ?_) ⟨by omega, by
       have e1 : (c' - l.toNat) * ks.length + l.toNat * ks.length = c' * ks.length := by rw [← Nat.add_mul]; congr 1; omega
       simp only; omega, by omega⟩
      simp only
      rw [g2 (by omega), Nat.add_mul]
    ·cases h
   ·cases h
  ·cases h
 ·cases h

theorem buildSlice_sound (hI : Inv e x w m) (hT : RepL x tm a.tmps.toList) {t el : TypeId} {n : Nat} {ps : Array (Nat × Operand)} {ks : List Kd} {z : List AV} {zr : Row} {rows : Rows} {se : Nat}
  (ht : e.P.underlying t = some (.slice el)) (hz : zeroOf e.P el = some z) (hzr : AV.flats z = some zr) (hse : size? e.P el = some se) (hrows : rowsOf e.P el ks tm ps.toList (List.replicate n zr) = some rows)
  (hks : se = ks.length) (hof : Row.ofKds ks zr = true) (hsz : n * se ≤ 16777216) :
  (∃ u w' x', (Instr.buildSlice t n (ps.map fun p => (p.1, a.eval p.2))).run e.P w = .ok u w' ∧ Rep x' (.sl false ks rows .ex) u ∧ Inv e x' w' m ∧ Ext x x' [] []) ∧
  (∀ d, d < 1000 → n ≤ 16777216 → ∃ u w' x', (Instr.buildSlice t n (ps.map fun p => (p.1, a.eval p.2))).run e.P w = .ok u w' ∧ Rep x' (.ms d ks 0 n n) u ∧ Inv e x' w' (writes (scrubM [d] [] (dropAll m [d])) [(d, [.arr ks rows])]) ∧ Ext x x' [d] []) ∧
  ∀ d, u8k ks = false → n ≤ 16777216 → ∃ u w' x', (Instr.buildSlice t n (ps.map fun p => (p.1, a.eval p.2))).run e.P w = .ok u w' ∧ Rep x' (.sl false ks rows (.tok d)) u ∧ Inv e x' w' (scrubM [] [d] m) ∧ Ext x x' [] [d] := by
 subst hks
 obtain ⟨i, zv, hi, hzz, hrz⟩ := zeroOf_rep x hz
 obtain ⟨hzl, hzc⟩ := Row.toCells hrz rfl hzr
 have hzk := Row.ofKds_length hof
 have hzl' : zr.length = zv.cells.size := by rw [← Array.length_toList]; exact hzl
 have hzsize : zv.cells.size = ks.length := by omega
 have hsize : (sizeOf el).run e.P w = .ok ks.length w := run_size hse w
 have hbig : ¬ (n * ks.length > 2 ^ 24) := by omega
 -- the cells at first
 let init : Array Value := if n * ks.length = 0 then #[] else (Array.range (n * ks.length)).map (zv.cells[· % zv.cells.size]!)
 have hinit : RowsV x.M ks (List.replicate n zr) init.toList := by
  by_cases h0 : n * ks.length = 0
  ·refine ⟨by simp [init, h0], ?_⟩
   intro q r hq
   rw [List.getElem?_replicate] at hq
   split at hq
   ·rename_i hlt
    cases hq
    refine ⟨hof, fun j d hj => ?_⟩
    have hjl : j < zr.length := (List.getElem?_eq_some_iff.1 hj).1
    have : 0 < n * ks.length := Nat.mul_pos (by omega) (by omega)
    omega
   ·cases hq
  ·refine ⟨by simp [init, h0], ?_⟩
   intro q r hq
   rw [List.getElem?_replicate] at hq
   split at hq
   ·rename_i hlt
    cases hq
    refine ⟨hof, fun j d hj => ?_⟩
    have hjl : j < ks.length := by rw [← hzk]; exact (List.getElem?_eq_some_iff.1 hj).1
    obtain ⟨u, hu, hd⟩ := hzc j d hj
    refine ⟨u, ?_, hd⟩
    have hlt2 : q * ks.length + j < n * ks.length := by
     have := Nat.mul_le_mul_right ks.length (show q + 1 ≤ n from hlt)
     rw [Nat.add_mul, Nat.one_mul] at this
     omega
    have hmod : (q * ks.length + j) % zv.cells.size = j := by
     rw [hzsize, Nat.mul_comm, Nat.mul_add_mod]; exact Nat.mod_eq_of_lt hjl
    simp only [init, if_neg h0]
    rw [Array.getElem?_toList, Array.getElem?_map, Array.getElem?_range, if_pos hlt2]
    simp only [Option.map_some, hmod]
    rw [Array.getElem?_toList] at hu
    rw [Array.getElem!_eq_getD, Array.getD_eq_getD_getElem?, hu]; rfl
   ·cases hq
 obtain ⟨us, h1, h2, h3⟩ := rows_sound hT ps.toList hrows hinit
 have hun : us.size = rows.length * ks.length := by rw [← Array.length_toList]; exact h2.1
 have hn : rows.length = n := by rw [h3, List.length_replicate]
 have hrun : (Instr.buildSlice t n (ps.map fun p => (p.1, a.eval p.2))).run e.P w = .ok (.slice (some ⟨w.heap.size, 0, none⟩) n n) (w.alloc (.cells us el)) := by
  by_cases h0 : n * ks.length = 0
  ·simp only [init, if_pos h0] at h1
   have h1' : Instr.fill (fun i => some (i * ks.length, ks.length)) ((Array.range (n * ks.length)).map ((#[] : Array Value)[· % (#[] : Array Value).size]!)) (ps.map fun p => (p.1, a.eval p.2)).toList = some us := by
    have e0 : ∀ f : Nat → Value, (Array.range 0).map f = #[] := fun f => by simp
    rw [h0, e0]; simpa [Array.toList_map] using h1
   simp [Instr.buildSlice, run_underlying ht, hsize, h0, newRow] at h1' ⊢
   simp [h1']
   try rfl
  ·simp only [init, if_neg h0] at h1
   have h1' : Instr.fill (fun i => some (i * ks.length, ks.length)) ((Array.range (n * ks.length)).map (zv.cells[· % zv.cells.size]!)) (ps.map fun p => (p.1, a.eval p.2)).toList = some us := by
    simpa [Array.toList_map] using h1
   have hzero : (zeroValue el).run e.P w = .ok zv w := by simp [zeroValue, typeInfo, hi, hzz]
   simp [Instr.buildSlice, run_underlying ht, hsize, hbig, h0, newRow, hzero] at h1' ⊢
   simp [h1']
   try rfl
 refine ⟨⟨_, _, x.withRow w.heap.size us.toList, hrun, ?_, hI.withRow us el us.toList (fun j v hj => by rw [Array.getElem?_toList] at hj; exact hj), Ext.withRow hI _ _ _⟩, fun d hd hn16 => ?_, fun d hu8 hn16 => ?_⟩
 ·refine .sl _ _ _ _ _ ?_ ⟨_, _, rfl⟩
  rw [← hn]
  refine .sl ks rows ⟨w.heap.size, 0, none⟩ _ (Nat.le_refl _) (fun _ => rfl) (h2.at (Sub.withRow hI _) _ _ fun j u hj => ?_)
  simp only [X.withRow, if_true, Nat.zero_add]; exact hj
 ·refine ⟨_, _, x.withBox d w.heap.size us.size, hrun, .ms d ks 0 n n w.heap.size 0 n (by simp [X.withBox]) (Nat.le_refl _) (fun _ => by simp) ⟨Nat.le_refl _, by simp only [X.withBox, if_true]; rw [hun, hn]; omega, by unfold maxLen; omega⟩, hI.withBox d hd us el _ (fun h => by cases h) (.inr ⟨ks, rows, rfl, ?_⟩), Ext.withBox x d _ _⟩
  exact h2.arr
 ·have hcs : ∀ (j : Nat) (v : Value), us.toList[j]? = some v → us[j]? = some v := fun j v hj => by rw [Array.getElem?_toList] at hj; exact hj
  have h1' := hI.withRow us el us.toList hcs
  have hsub : Sub x.M (x.withRow w.heap.size us.toList).M := Sub.withRow hI _
  have hMn : ∀ j, (x.withRow w.heap.size us.toList).M w.heap.size j = us.toList[j]? := by intro j; simp [X.withRow]
  have hd : mem d [d] = true := by simp [mem]
  have hfresh : (w.alloc (.cells us el)).heap[w.heap.size]? = some (.cells us el (0, 0)) := heap_new w _
  refine ⟨_, _, (x.withRow w.heap.size us.toList).withTok d (.slice (some ⟨w.heap.size, 0, none⟩) n n) ks [d], hrun, ?_, h1'.withTok d _ ks [d] hd ?_ ?_ ?_, ?_⟩
  ·refine .sl _ _ _ _ _ ?_ (by simp [RtOk, X.withTok])
   rw [← hn]
   refine .sl ks rows ⟨w.heap.size, 0, none⟩ _ (Nat.le_refl _) (fun _ => rfl) (h2.at hsub _ _ fun j u hj => ?_)
   rw [Nat.zero_add, hMn]; exact hj
  ·intro a n' c hv hlt
   injection hv with g2 g3 g4
   injection g2 with g2
   subst g2; subst g3; subst g4
   refine ⟨us, el, rfl, rfl, .inl hI.size, hfresh, ⟨by unfold maxLen; omega, fun hu => by rw [hu8] at hu; cases hu⟩, by rw [hun, hn]; exact Nat.le_refl _, fun j hj => ?_⟩
   rw [hMn, List.getElem?_eq_none]
   rw [Array.length_toList, hun, hn]
   exact hj
  ·intro a n' c j cs hv hlt hj hl
   injection hv with g2 g3 g4
   injection g2 with g2
   subst g2
   obtain ⟨b', _, _, h5, _, h6, _⟩ := hI.slot j cs hj
   have := (Array.getElem?_eq_some_iff.1 h6).1
   have h7 : x.loc j = some w.heap.size := hl
   rw [h5] at h7
   have := Option.some.inj h7
   omega
  ·intro a n' c j a' n'' c' sz' hv hlt hs hj hlt' hab
   injection hv with g2 g3 g4
   injection g2 with g2
   subst g2
   have := hI.tokLt (k := j) hj hlt'
   simp only at hab
   omega
  ·exact ⟨hsub, fun _ _ _ h => h, (Ext.withTok (x.withRow w.heap.size us.toList) d _ ks [d] hd).tk, fun _ _ => rfl, rfl⟩
end Go.Den
namespace Go.Den
variable {e : Env} {x : X} {w : World} {m : Mem} {tm : List AV} {a : Act} {next : Act → World → Prop} {Q : Exit → Act → World → Prop} {R : Type} {res : R} {k kp : Eff → Option R}

def Goes (e : Env) (x : X) (m : Mem) (a : Act) (o : Oper) (next : Act → World → Prop) (k : Eff → Option R) (res : R) : Prop :=
 ∀ eff x' w' v, k eff = some res → After e x x' w' m v eff → next (a.put o.dst v) w'

variable {o : Oper}
theorem pure_op (hI : Inv e x w m) (hk : Goes e x m a o next k res) {r : AV} {v : Value} (h : k (.pure r) = some res) (hr : Rep x r v) (hrun : (execOp a.eval o).run e.P w = .ok (.value v) w) : o.wp e.P a w next Q :=
 wp_value hrun (hk _ _ _ _ h ⟨hr, hI, Ext.refl _ _ _⟩)

theorem sound_move (hI : Inv e x w m) (hT : RepL x tm a.tmps.toList) (hk : Goes e x m a o next k res) {y : Operand} (ho : o.op = .move y ∨ o.op = .assign y)
  (h : (match evT e.P tm o.type y with | some v => k (.pure v) | none => none) = some res) : o.wp e.P a w next Q := by
 split at h
 ·rename_i v hv
  refine pure_op hI hk h (evT_rep hT hv) ?_
  rcases ho with ho | ho <;> simp [execOp, ho]
 ·cases h

theorem sound_pick (hI : Inv e x w m) (hT : RepL x tm a.tmps.toList) (hk : Goes e x m a o next k res) {c y z : Operand} (ho : o.op = .pick c y z)
  (h : (match evT e.P tm 0 c with
   |some (.dv (.val (.bool true))) => match evT e.P tm o.type y with | some v => k (.pure v) | none => none
   |some (.dv (.val (.bool false))) => match evT e.P tm o.type z with | some v => k (.pure v) | none => none
   |_ => none) = some res) : o.wp e.P a w next Q := by
 split at h
 ·rename_i hc
  have hc' := Rep.val (evT_rep hT hc)
  split at h
  ·rename_i v hv
   exact pure_op hI hk h (evT_rep hT hv) (by simp [execOp, ho, hc', asBool])
  ·cases h
 ·rename_i hc
  have hc' := Rep.val (evT_rep hT hc)
  split at h
  ·rename_i v hv
   exact pure_op hI hk h (evT_rep hT hv) (by simp [execOp, ho, hc', asBool])
  ·cases h
 ·cases h

theorem blt_iff {a b : Nat} : Nat.blt a b = true ↔ a < b := by simp

theorem sound_alloc (hI : Inv e x w m) (hk : Goes e x m a o next k res) {t : TypeId} (ho : o.op = .alloc t)
  (h : (match o.dst, zeroOf e.P t with
   |some d, some cs => if Nat.blt d 1000 && virOk e.P t cs then k (.full (.pl d 0) [d] [] [(d, cs)]) else none
   |_, _ => none) = some res) : o.wp e.P a w next Q := by
 split at h
 ·rename_i d cs hd hz
  split at h
  ·rename_i hlt
   rw [Bool.and_eq_true] at hlt
   obtain ⟨i, z, hi, hzz, _⟩ := zeroOf_rep x hz
   have hr : RepL (x.withBox d w.heap.size z.cells.size) cs z.cells.toList := by
    obtain ⟨i', z', hi', hzz', hr'⟩ := zeroOf_rep (x.withBox d w.heap.size z.cells.size) hz
    rw [hi] at hi'; cases hi'
    rw [hzz] at hzz'; cases hzz'
    exact hr'
   refine wp_value (v := .pointer (some ⟨w.heap.size, 0, none⟩)) (w' := w.alloc (.cells z.cells t)) ?_ (hk _ (x.withBox d w.heap.size z.cells.size) _ _ h ⟨.pl _ _ _ (by simp [X.withBox]), (hI.withBox d (blt_iff.1 hlt.1) z.cells t cs (virOk_imp hlt.2) (.inl hr)).tidy, Ext.withBox x d _ _⟩)
   simp [execOp, ho, Instr.alloc, zeroValue, typeInfo, hi, hzz, newVar, newRow]
   try rfl
  ·cases h
 ·cases h

theorem sound_box (hI : Inv e x w m) (hT : RepL x tm a.tmps.toList) (hk : Goes e x m a o next k res) {t : TypeId} {y : Operand} (ho : o.op = .box t y)
  (h : (match o.dst, evT e.P tm t y with
   |some d, some v => match v.cells with
    |some cs => if Nat.blt d 1000 && virOk e.P t (AV.scrubL [d] [] cs) then k (.full (.pl d 0) [d] [] [(d, AV.scrubL [d] [] cs)]) else none
    |none => none
   |_, _ => none) = some res) : o.wp e.P a w next Q := by
 split at h
 ·rename_i d v hd hv
  split at h
  ·rename_i cs hcs
   split at h
   ·rename_i hlt
    rw [Bool.and_eq_true] at hlt
    have hr := (evT_rep hT hv).cells' hcs
    refine wp_value (v := .pointer (some ⟨w.heap.size, 0, none⟩)) (w' := w.alloc (.cells (a.eval y).cells t)) ?_ (hk _ (x.withBox d w.heap.size (a.eval y).cells.size) _ _ h ⟨.pl _ _ _ (by simp [X.withBox]), (hI.withBox d (blt_iff.1 hlt.1) _ t _ (virOk_imp hlt.2) (.inl (hr.scrub (Ext.withBox x d _ _)))).tidy, Ext.withBox x d _ _⟩)
    simp [execOp, ho, Instr.box, newVar, newRow]
    try rfl
   ·cases h
  ·cases h
 ·cases h

theorem sound_build (hI : Inv e x w m) (hT : RepL x tm a.tmps.toList) (hk : Goes e x m a o next k res) {t : TypeId} {ps : Array (Nat × Operand)} (ho : o.op = .build t ps)
  (h : (match zeroOf e.P t, sized e.P t with
   |some cs, true => match parts e.P t tm ps.toList cs with
    |some cs => k (.pure (.agg cs))
    |none => none
   |_, _ => none) = some res) : o.wp e.P a w next Q := by
 split at h
 ·rename_i cs hz hs
  split at h
  ·rename_i cs' hp
   obtain ⟨us, h1, h2⟩ := build_sound (w := w) hT hz hs hp
   refine pure_op hI hk h (.agg _ _ h2) ?_
   simp only [execOp, ho, Sem.run_bind]
   rw [h1]; rfl
  ·cases h
 ·cases h

theorem sound_buildSlice (hI : Inv e x w m) (hT : RepL x tm a.tmps.toList) (hk : Goes e x m a o next k res) {hs : List Nat} {t : TypeId} {n : Nat} {ps : Array (Nat × Operand)} (ho : o.op = .buildSlice t n ps)
  (h : (match e.P.underlying t with
  |some (.slice el) => match kdsOf e.P 9 el, zeroOf e.P el, size? e.P el with
   |some ks, some z, some se => match AV.flats z with
    |some zr => match rowsOf e.P el ks tm ps.toList (List.replicate n zr) with
     |some rows => if Nat.beq se ks.length && Row.ofKds ks zr && Nat.ble (n * se) 16777216 then
       match o.dst with
       |some d => match mem d hs && Nat.blt d 1000 && Nat.ble n 16777216 with
        |true => k (.full (.ms d ks 0 n n) [d] [] [(d, [.arr ks rows])])
        |false => match mem (2000000 + d) hs && !u8k ks && Nat.ble n 16777216 with
         |true => k (.full (.sl false ks rows (.tok d)) [] [d] [])
         |false => k (.pure (.sl false ks rows .ex))
       |none => k (.pure (.sl false ks rows .ex))
      else none
     |none => none
    |none => none
   |_, _, _ => none
  |_ => none) = some res) : o.wp e.P a w next Q := by
 split at h
 ·rename_i el ht
  split at h
  ·rename_i ks z se hks hz hse
   split at h
   ·rename_i zr hzr
    split at h
    ·rename_i rows hrows
     split at h
     ·rename_i hc
      simp only [Bool.and_eq_true, beq_eq, Nat.ble_eq] at hc
      obtain ⟨⟨c1, c2⟩, c3⟩ := hc
      obtain ⟨⟨u, w', x', h1, h2, h3, h4⟩, hms, htk⟩ := buildSlice_sound hI hT ht hz hzr hse hrows c1 c2 c3
      have own : k (.pure (.sl false ks rows .ex)) = some res → o.wp e.P a w next Q := by
       intro h
       refine wp_value (v := u) (w' := w') ?_ (hk _ x' _ _ h ⟨h2, h3, h4⟩)
       simp only [execOp, ho, Sem.run_bind]
       rw [h1]; rfl
      split at h
      ·rename_i d hd
       split at h
       ·rename_i hm
        simp only [Bool.and_eq_true, Nat.ble_eq] at hm
        obtain ⟨u, w', x', h1, h2, h3, h4⟩ := hms d (blt_iff.1 hm.1.2) hm.2
        refine wp_value (v := u) (w' := w') ?_ (hk _ x' _ _ h ⟨h2, h3.tidy, h4⟩)
        simp only [execOp, ho, Sem.run_bind]
        rw [h1]; rfl
       ·split at h
        ·rename_i hm
         simp only [Bool.and_eq_true, Nat.ble_eq, Bool.not_eq_true'] at hm
         obtain ⟨u, w', x', h1, h2, h3, h4⟩ := htk d hm.1.2 hm.2
         refine wp_value (v := u) (w' := w') ?_ (hk _ x' _ _ h ⟨h2, h3.tidy, h4⟩)
         simp only [execOp, ho, Sem.run_bind]
         rw [h1]; rfl
        ·exact own h
      ·exact own h
     ·cases h
    ·cases h
   ·cases h
  ·cases h
 ·cases h

theorem sound_load (hI : Inv e x w m) (hT : RepL x tm a.tmps.toList) (hk : Goes e x m a o next k res) {t : TypeId} {y : Operand} (ho : o.op = .load t y)
  (h : (match evT e.P tm 0 y with | some v => loadE e.P m t v k | none => none) = some res) : o.wp e.P a w next Q := by
 split at h
 ·rename_i v hv
  obtain ⟨r, u, h1, h2, h3⟩ := load_sound hI (evT_rep hT hv) h
  refine pure_op hI hk h1 h2 ?_
  simp only [execOp, ho, Sem.run_bind]
  rw [h3]; rfl
 ·cases h

theorem sound_store (hI : Inv e x w m) (hT : RepL x tm a.tmps.toList) (hk : Goes e x m a o next k res) {t : TypeId} {y z : Operand} (ho : o.op = .store t y z)
  (h : (match evT e.P tm 0 y, evT e.P tm t z with | some v, some x => storeE e.P m t v x k | _, _ => none) = some res) : o.wp e.P a w next Q := by
 split at h
 ·rename_i v u hv hu
  obtain ⟨w', p, cs, h1, h2, h3⟩ := store_sound hI (evT_rep hT hv) (evT_rep hT hu) h
  refine wp_skip (w' := w') ?_ (hk _ x _ undef h1 ⟨.junk _, by simpa [dropAll, scrubM_nil, writes] using h3.tidy, Ext.refl _ _ _⟩)
  simp only [execOp, ho, Sem.run_bind]
  rw [h2]; rfl
 ·cases h

theorem sound_nilCheck (hI : Inv e x w m) (hT : RepL x tm a.tmps.toList) (hk : Goes e x m a o next k res) {y : Operand} (ho : o.op = .nilCheck y)
  (h : (match evT e.P tm 0 y with
  |some (.pl j off) => match Nat.beq off mapOff with | false => k (.pure (.pl j off)) | true => none
  |some (.pv ks row off) => k (.pure (.pv ks row off))
  |some (.pa j ks i q) => k (.pure (.pa j ks i q))
  |some (.fn f caps) => k (.pure (.fn f caps))
  |_ => none) = some res) : o.wp e.P a w next Q := by
 split at h
 ·rename_i j off hv
  have hr := evT_rep hT hv
  have hr' := hr
  split at h
  ·rename_i hof
   obtain ⟨b, hb, hu⟩ := hr.pl_inv
   rw [ptrV_ptr hof] at hu
   exact pure_op hI hk h hr' (by simp [execOp, ho, hu])
  ·cases h
 ·rename_i ks row off hv
  have hr := evT_rep hT hv
  have hr' := hr
  generalize hu : a.eval y = u at hr hr'
  cases hr with
  |pv _ _ _ b q h1 h2 h3 => exact pure_op hI hk h hr' (by simp [execOp, ho, hu])
 ·rename_i j ks i q hv
  have hr := evT_rep hT hv
  have hr' := hr
  generalize hu : a.eval y = u at hr hr'
  cases hr with
  |pa _ _ _ _ b h1 => exact pure_op hI hk h hr' (by simp [execOp, ho, hu])
 ·rename_i f caps hv
  have hr := evT_rep hT hv
  have hr' := hr
  generalize hu : a.eval y = u at hr hr'
  cases hr with
  |fn _ _ vs h1 => exact pure_op hI hk h hr' (by simp [execOp, ho, hu])
 ·cases h

theorem sound_bin (hI : Inv e x w m) (hT : RepL x tm a.tmps.toList) (hk : Goes e x m a o next k res) {op : BinOp} {t u : TypeId} {y z : Operand} (ho : o.op = .binOp op t y z u) {p q : AV} (hp : evT e.P tm t y = some p) (hq : evT e.P tm u z = some q) {r : AV} (hb : binE e.P op t p q = some r)
  (h : k (.pure r) = some res) : o.wp e.P a w next Q := by
 obtain ⟨v, h1, h2⟩ := bin_sound (w := w) hb (evT_rep hT hp) (evT_rep hT hq) y z
 refine pure_op hI hk h h2 ?_
 simp only [execOp, ho, Sem.run_bind] at h1 ⊢
 rw [h1]; rfl

theorem sound_int (hI : Inv e x w m) (hT : RepL x tm a.tmps.toList) (hk : Goes e x m a o next k res) {op : BinOp} {t u : TypeId} {y z : Operand} (ho : o.op = .binOp op t y z u) {j l : IntKind} {p q : Int} (hp : evT e.P tm t y = some (.I j p)) (hq : evT e.P tm u z = some (.I l q)) {r : Int}
  (hrun : (do eqGuard op t y z (.int j p) (.int l q); binOp op t (.int j p) (.int l q) : Sem Value).run e.P w = .ok (.int j r) w)
  (h : k (.pure (.I j r)) = some res) : o.wp e.P a w next Q := by
 have h1 := Rep.val (evT_rep hT hp)
 have h2 := Rep.val (evT_rep hT hq)
 refine pure_op hI hk h (rep_val x rfl) (v := .int j r) ?_
 simp only [execOp, ho, h1, h2, Sem.run_bind] at hrun ⊢
 rw [hrun]; rfl

theorem sound_un (hI : Inv e x w m) (hT : RepL x tm a.tmps.toList) (hk : Goes e x m a o next k res) {op : UnOp} {t : TypeId} {y : Operand}
  (h : (match op, evT e.P tm t y with
  | .neg, some (.dv (.val (.int j n))) => k (.pure (.I j (j.wrap (0 - n))))
  | .not, some (.dv (.val (.bool b))) => k (.pure (.B (!b)))
  |_, _ => none) = some res) (ho : o.op = .unOp op t y) : o.wp e.P a w next Q := by
 split at h
 ·rename_i j n hv
  have h1 := Rep.val (evT_rep hT hv)
  exact pure_op hI hk h (rep_val x rfl) (v := .int j (j.wrap (0 - n))) (by simp [execOp, ho, h1, Op.unary, Op.intArith])
 ·rename_i b hv
  have h1 := Rep.val (evT_rep hT hv)
  exact pure_op hI hk h (rep_val x rfl) (v := .bool !b) (by simp [execOp, ho, h1, Op.unary])
 ·cases h

theorem sound_convert (hI : Inv e x w m) (hT : RepL x tm a.tmps.toList) (hk : Goes e x m a o next k res) {src dst : TypeId} {y : Operand} (ho : o.op = .convert src dst y)
  (h : (match e.P.underlying src, e.P.underlying dst, evT e.P tm src y with
  |some (.int _), some (.int j), some (.dv (.val (.int _ n))) => k (.pure (.I j (j.wrap n)))
  |some .string, some .string, some (.dv (.val (.string s))) => k (.pure (.S s))
  |some (.slice el), some .string, some (.sl _ [.i .u8] rows _) =>
   match e.P.underlying el with
   |some (.int .u8) => k (.pure (.S (bytesOf rows)))
   |_ => none
  |_, _, _ => none) = some res) : o.wp e.P a w next Q := by
 split at h
 ·rename_i i j i2 n hs hd hv
  have h1 := Rep.val (evT_rep hT hv)
  exact pure_op hI hk h (rep_val x rfl) (v := .int j (j.wrap n)) (by simp [execOp, ho, h1, convert, run_underlying hs, run_underlying hd, Conv.intToInt])
 ·rename_i s hs hd hv
  have h1 := Rep.val (evT_rep hT hv)
  exact pure_op hI hk h (rep_val x rfl) (v := .string s) (by simp [execOp, ho, h1, convert, run_underlying hs, run_underlying hd])
 ·rename_i el n rows r hs hd hv
  split at h
  ·rename_i hel
   have hr := evT_rep hT hv
   have hb := bytes_sound hI hr
   refine pure_op hI hk h (rep_val x rfl) (v := .string (bytesOf rows)) ?_
   have : ∃ q c b, a.eval y = .slice q c b := by
    generalize a.eval y = u at hr
    cases hr with
    |sl _ _ _ _ _ hd _ =>
    rcases hd.rows with ⟨_, _, rfl⟩ | ⟨_, _, _, rfl, _⟩
    ·exact ⟨_, _, _, rfl⟩
    ·exact ⟨_, _, _, rfl⟩
   obtain ⟨q, c, b, hq⟩ := this
   rw [hq] at hb
   have h2 := run_convert_bytes_string (P := e.P) w src dst el q c b hs hel hd
   simp only [execOp, ho, Sem.run_bind, hq]
   rw [h2, hb]; rfl
  ·cases h
 ·cases h

theorem sound_makeInterface (hI : Inv e x w m) (hT : RepL x tm a.tmps.toList) (hk : Goes e x m a o next k res) {t : TypeId} {y : Operand} (ho : o.op = .makeInterface t y)
  (h : (match e.P.underlying t, evT e.P tm t y with
  |some (.interface _), _ => none
  |some _, some v => k (.pure (.ifc t v))
  |_, _ => none) = some res) : o.wp e.P a w next Q := by
 split at h
 ·cases h
 ·rename_i d v hne hd hv
  have hc : e.P.concrete t = true := by
   unfold Program.concrete
   rw [hd]
   split
   ·rename_i ms heq; exact absurd (Option.some.inj heq) (by rintro rfl; exact hne ms rfl)
   ·rename_i heq; cases heq
   ·rfl
  refine pure_op hI hk h (.ifc _ _ _ (evT_rep hT hv)) ?_
  simp only [execOp, ho, Sem.run_bind]
  rw [run_makeInterface w t _ hc]; rfl
 ·cases h

theorem sound_makeFunc (hI : Inv e x w m) (hT : RepL x tm a.tmps.toList) (hk : Goes e x m a o next k res) {f : FuncId} {first caps : Array Operand} (ho : o.op = .makeFunc (.func f) first caps)
  (h : (match first.toList, evs e.P tm [] caps.toList with
  |[], some l => k (.pure (.fn f l))
  |_, _ => none) = some res) : o.wp e.P a w next Q := by
 split at h
 ·rename_i l hf hl
  have hr := evs_rep hT hl
  obtain ⟨first⟩ := first
  obtain ⟨caps⟩ := caps
  simp only at hf hr
  subst hf
  refine pure_op hI hk h (.fn _ _ _ hr) ?_
  simp [execOp, ho, Instr.makeFunc]
 ·cases h

theorem elemOk_size {P : Program} {t : TypeId} {ks : List Kd} (h : elemOk P t ks = true) : ∃ el, P.underlying t = some (.slice el) ∧ size? P el = some ks.length := by
 unfold elemOk at h
 split at h
 ·rename_i el hu
  split at h
  ·rename_i ke n hke hn
   simp only [Bool.and_eq_true, beq_eq] at h
   obtain ⟨h1, rfl⟩ := h
   obtain rfl := Kd.sameL_eq h1
   exact ⟨el, hu, hn⟩
  ·cases h
 ·cases h

theorem sound_slice (hI : Inv e x w m) (hT : RepL x tm a.tmps.toList) (hk : Goes e x m a o next k res) {t : TypeId} {y : Operand} {lo hi mx : Option Operand} (ho : o.op = .slice t y lo hi mx)
  (h : (match evT e.P tm t y, evO e.P tm lo, evO e.P tm hi, evO e.P tm mx with
  |some (.dv (.val (.string s))), some l, some h, some q => match e.P.underlying t with | some .string => sliceE (.S s) l h q k | _ => none
  |some (.sl n ks rows r), some l, some h, some q => if elemOk e.P t ks then sliceE (.sl n ks rows r) l h q k else none
  |some (.ms j ks off n c), some l, some h, some q => if elemOk e.P t ks then sliceE (.ms j ks off n c) l h q k else none
  |_, _, _, _ => none) = some res) : o.wp e.P a w next Q := by
 split at h
 ·rename_i s l hh q hv hl hh' hq
  split at h
  ·rename_i ht
   have h1 := Rep.val (evT_rep hT hv)
   obtain ⟨v, z, p1, p2, p3⟩ := sliceStr_sound (w := w) ht (evO_rep hT hl) (evO_rep hT hh') (evO_rep hT hq) h
   refine pure_op hI hk p1 p2 ?_
   simp only [execOp, ho, Sem.run_bind, h1]
   rw [p3]; rfl
  ·cases h
 ·rename_i n ks rows r l hh q hv hl hh' hq
  split at h
  ·rename_i hok
   obtain ⟨el, ht, hsz⟩ := elemOk_size hok
   obtain ⟨v, z, p1, p2, p3⟩ := slice_sound (w := w) ht hsz (evO_rep hT hl) (evO_rep hT hh') (evO_rep hT hq) (evT_rep hT hv) h
   refine pure_op hI hk p1 p2 ?_
   simp only [execOp, ho, Sem.run_bind]
   rw [p3]; rfl
  ·cases h
 ·rename_i j ks off n c l hh q hv hl hh' hq
  split at h
  ·rename_i hok
   obtain ⟨el, ht, hsz⟩ := elemOk_size hok
   obtain ⟨v, z, p1, p2, p3⟩ := sliceMs_sound (w := w) ht hsz (evO_rep hT hl) (evO_rep hT hh') (evO_rep hT hq) (evT_rep hT hv) h
   refine pure_op hI hk p1 p2 ?_
   simp only [execOp, ho, Sem.run_bind]
   rw [p3]; rfl
  ·cases h
 ·cases h

theorem sound_fieldAddr (hI : Inv e x w m) (hT : RepL x tm a.tmps.toList) (hk : Goes e x m a o next k res) {s : TypeId} {y : Operand} {f : Nat} (ho : o.op = .fieldAddr s y f)
  (h : (match field? e.P s f, evT e.P tm 0 y with
  |some (off, ft), some (.pl j q) => match size? e.P ft with | some n => if Nat.blt 0 n && !Nat.beq q mapOff && !Nat.beq (q + off) mapOff then k (.pure (.pl j (q + off))) else none | none => none
  |some (off, ft), some (.pv ks row q) => match size? e.P ft with | some n => if Nat.blt 0 n && Nat.blt (pvOff q + off) 3000000000 then k (.pure (.pv ks row (q + off))) else none | none => none
  |some (off, ft), some (.pa j ks i q) => match size? e.P ft with | some n => if Nat.blt 0 n then k (.pure (.pa j ks i (q + off))) else none | none => none
  |_, _ => none) = some res) : o.wp e.P a w next Q := by
 split at h
 ·rename_i off ft j q hf hv
  have hr := evT_rep hT hv
  split at h
  ·rename_i n hn
   split at h
   ·rename_i h0
    simp only [Bool.and_eq_true, Bool.not_eq_true'] at h0
    obtain ⟨⟨h0, hq1⟩, hq2⟩ := h0
    obtain ⟨b, hb, hu⟩ := hr.pl_inv
    rw [ptrV_ptr hq1] at hu
    refine pure_op hI hk h (.pl _ _ _ hb) ?_
    rw [ptrV_ptr hq2]
    simp only [execOp, ho, Sem.run_bind, hu]
    rw [field_sound hf hn (blt_iff.1 h0)]; rfl
   ·cases h
  ·cases h
 ·rename_i off ft ks row q hf hv
  have hr := evT_rep hT hv
  split at h
  ·rename_i n hn
   split at h
   ·rename_i h0
    generalize hu : a.eval y = u at hr
    cases hr with
    |pv _ _ _ b p h1 h2 h3 =>
    simp only [Bool.and_eq_true] at h0
    refine pure_op hI hk h (.pv _ _ _ _ _ h1 h2 fun hh => h3 (isOld_add (blt_iff.1 h0.2) hh)) ?_
    simp only [execOp, ho, Sem.run_bind, hu]
    rw [field_sound hf hn (blt_iff.1 h0.1), Nat.add_assoc, pvOff_add (blt_iff.1 h0.2)]; rfl
   ·cases h
  ·cases h
 ·rename_i off ft j ks i q hf hv
  have hr := evT_rep hT hv
  split at h
  ·rename_i n hn
   split at h
   ·rename_i h0
    generalize hu : a.eval y = u at hr
    cases hr with
    |pa _ _ _ _ b hb =>
    refine pure_op hI hk h (.pa _ _ _ _ _ hb) ?_
    simp only [execOp, ho, Sem.run_bind, hu]
    rw [field_sound hf hn (blt_iff.1 h0), Nat.add_assoc]; rfl
   ·cases h
  ·cases h
 ·cases h

theorem sound_field (hI : Inv e x w m) (hT : RepL x tm a.tmps.toList) (hk : Goes e x m a o next k res) {s : TypeId} {y : Operand} {f : Nat} (ho : o.op = .field s y f)
  (h : (match field? e.P s f, evT e.P tm s y with
  |some (off, ft), some (.agg cs) =>
   match agg? e.P ft, size? e.P ft with
   |some true, some n => if Nat.ble (off + n) cs.length then k (.pure (.agg ((cs.drop off).take n))) else none
   |some false, some _ => match cs[off]? with | some v => k (.pure v) | none => none
   |_, _ => none
  |_, _ => none) = some res) : o.wp e.P a w next Q := by
 split at h
 ·rename_i off ft cs hf hv
  have hr := evT_rep hT hv
  have hfield : ∃ fs fl, e.P.underlying s = some (.struct fs) ∧ fs[f]? = some fl ∧ fl.offset = off ∧ fl.type = ft := by
   unfold field? at hf
   split at hf
   ·rename_i fs hu
    split at hf
    ·rename_i fl hfl
     simp only [Option.some.injEq, Prod.mk.injEq] at hf
     exact ⟨fs, fl, hu, hfl, hf.1, hf.2⟩
    ·cases hf
   ·cases hf
  obtain ⟨fs, fl, hu, hfl, rfl, rfl⟩ := hfield
  generalize hz : a.eval y = u at hr
  cases hr with
  |agg _ vs hvs =>
  split at h
  ·rename_i n ha hn
   split at h
   ·rename_i hle
    refine pure_op hI hk h (.agg _ _ ((hvs.drop fl.offset).take n)) ?_
    have hp := run_partAgg (w := w) ha hn ⟨vs⟩ fl.offset
    simp [execOp, ho, Instr.field, run_underlying hu, hfl, asAgg, hz, hp, List.extract_eq_take_drop]
   ·cases h
  ·rename_i n ha hn
   split at h
   ·rename_i v hv'
    obtain ⟨z, hz1, hz2⟩ := hvs.get hv'
    refine pure_op hI hk h hz2 ?_
    have hp := run_partOne (w := w) ha ⟨vs⟩ fl.offset (v := z) (by simpa using hz1)
    simp [execOp, ho, Instr.field, run_underlying hu, hfl, asAgg, hz, hp]
   ·cases h
  ·cases h
 ·cases h
end Go.Den
namespace Go.Den
variable {e : Env} {x : X} {w : World} {m : Mem} {R : Type} {res : R}

theorem zeroCells_succ (z : Array Value) (n : Nat) : (Builtin.zeroCells z (n + 1)).toList = z.toList ++ (Builtin.zeroCells z n).toList := by
 apply List.ext_getElem?
 intro i
 simp only [Builtin.zeroCells]
 by_cases hz : z.size = 0
 ·have : z = #[] := Array.eq_empty_of_size_eq_zero hz
  subst this; simp
 by_cases h1 : i < z.size
 ·rw [List.getElem?_append_left (by simpa using h1), Array.getElem?_toList, Array.getElem?_map, Array.getElem?_range, if_pos (by rw [Nat.add_mul]; omega)]
  simp only [Option.map_some, Nat.mod_eq_of_lt h1]
  rw [Array.getElem?_toList, Array.getElem?_eq_getElem h1, getElem!_pos z i h1]
 ·rw [List.getElem?_append_right (by simpa using Nat.le_of_not_lt h1)]
  simp only [Array.length_toList, Array.getElem?_toList, Array.getElem?_map, Array.getElem?_range]
  have hmod : i % z.size = (i - z.size) % z.size := by
   conv => lhs; rw [show i = (i - z.size) + z.size by omega, Nat.add_mod_right]
  by_cases h2 : i - z.size < n * z.size
  ·rw [if_pos h2, if_pos (by rw [Nat.add_mul]; omega)]
   simp only [Option.map_some, hmod]
  ·rw [if_neg h2, if_neg (by rw [Nat.add_mul]; omega)]
theorem zeroCells_zero (z : Array Value) : (Builtin.zeroCells z 0).toList = [] := by simp [Builtin.zeroCells]
theorem zeroCells_len (z : Array Value) (n : Nat) : (Builtin.zeroCells z n).toList.length = n * z.size := by simp [Builtin.zeroCells]
theorem ArrV.zeros {M : Mm} {ks : List Kd} {zr : Row} {z : Array Value} (ho : Row.ofKds ks zr = true) (hz : CellsV M zr z.toList) {rows : Rows} {l : List Value} (h : ArrV M ks rows l) :
  ∀ n, ArrV M ks (List.replicate n zr ++ rows) ((Builtin.zeroCells z n).toList ++ l)
 |0 => by simpa [zeroCells_zero] using h
 |n + 1 => by
  rw [zeroCells_succ, List.replicate_succ, List.append_assoc]
  exact .cons zr _ _ _ ho hz (ArrV.zeros ho hz h n)
theorem zeroCells_ones {z : Array Value} (h : ∀ v ∈ z.toList, v.oneCell' = true) : ∀ n, ∀ v ∈ (Builtin.zeroCells z n).toList, v.oneCell' = true
 |0, v, hv => by rw [zeroCells_zero] at hv; cases hv
 |n + 1, v, hv => by
  rw [zeroCells_succ] at hv
  rcases List.mem_append.1 hv with hv | hv
  ·exact h v hv
  ·exact zeroCells_ones h n v hv
theorem ArrV.joined {M : Mm} {ks : List Kd} : ∀ {rows : Rows} {l : List Value}, ArrV M ks rows l → ∀ (off : Nat), off ≤ rows.length → ∀ {rows2 : Rows} {l2 : List Value}, ArrV M ks rows2 l2 → ArrV M ks (rows.take off ++ rows2) (l.take (off * ks.length) ++ l2)
 |_, _, .nil l, off, h, rows2, l2, h2 => by
  simp only [List.length_nil, Nat.le_zero] at h
  subst h; simpa using h2
 |_, _, .cons row vs rows l h1 h3 h4, 0, h, rows2, l2, h2 => by simpa using h2
 |_, _, .cons row vs rows l h1 h3 h4, off + 1, h, rows2, l2, h2 => by
  have hl := Row.ofKds_length h1
  have hv := h3.length
  have e1 : (vs ++ l).take ((off + 1) * ks.length) = vs ++ l.take (off * ks.length) := by
   rw [Nat.add_mul, Nat.one_mul, show off * ks.length + ks.length = vs.length + off * ks.length by omega, List.take_length_add_append]
  rw [e1, List.take_succ_cons, List.cons_append, List.append_assoc]
  exact .cons row vs _ _ h1 h3 (ArrV.joined h4 off (by simpa using h) h2)
theorem ArrV.dropped {M : Mm} {ks : List Kd} : ∀ {rows : Rows} {l : List Value}, ArrV M ks rows l → ∀ n, n ≤ rows.length → ArrV M ks (rows.drop n) (l.drop (n * ks.length))
 |_, _, .nil l, n, _ => by simpa using ArrV.nil _
 |_, _, .cons row vs rows l h1 h2 h3, 0, _ => by simpa using ArrV.cons row vs rows l h1 h2 h3
 |_, _, .cons row vs rows l h1 h2 h3, n + 1, hn => by
  have := ArrV.dropped h3 n (by simpa using hn)
  have hl := Row.ofKds_length h1
  have hv := h2.length
  rw [List.drop_succ_cons, Nat.add_mul, Nat.one_mul, show n * ks.length + ks.length = vs.length + n * ks.length by omega, ← List.drop_drop, List.drop_left]
  exact this
theorem RowsAt.arr {M : Mm} : ∀ {b o : Nat} {ks : List Kd} {rows : Rows}, RowsAt M b o ks rows → ∀ {vs : List Value}, (∀ q v, vs[q]? = some v → M b (o + q) = some v) → vs.length = rows.length * ks.length →
  ∀ {rows2 : Rows} {l : List Value}, ArrV M ks rows2 l → ArrV M ks (rows ++ rows2) (vs ++ l)
 |_, _, _, _, .nil b o ks, vs, h, hl, rows2, l, h2 => by
  have : vs = [] := List.eq_nil_of_length_eq_zero (by simpa using hl)
  subst this; simpa using h2
 |_, _, _, _, .cons b o ks row rows h1 h2 h3, vs, h, hl, rows2, l, hr => by
  have hlen := Row.ofKds_length h1
  simp only [List.length_cons, Nat.add_mul, Nat.one_mul] at hl
  have hc : CellsV M row (vs.take row.length) := cells h2 vs (by omega) h
  have := RowsAt.arr h3 (vs := vs.drop row.length) (fun q v hq => by
   rw [List.getElem?_drop] at hq
   have := h _ _ hq
   rw [← this]; congr 1; omega) (by rw [List.length_drop]; omega) hr
  rw [← List.take_append_drop row.length vs, List.cons_append, List.append_assoc]
  exact .cons row _ _ _ h1 hc this
where cells {M : Mm} : ∀ {b o : Nat} {row : Row}, CellsAt M b o row → ∀ (vs : List Value), row.length ≤ vs.length → (∀ q v, vs[q]? = some v → M b (o + q) = some v) → CellsV M row (vs.take row.length)
 |_, _, _, .nil b o, vs, _, _ => by simpa using CellsV.nil
 |_, _, _, .cons b o d v r h1 h2 h3, vs, hl, h => by
  cases vs with
  |nil => simp at hl
  |cons u vs =>
   have h0 := h 0 u rfl
   rw [Nat.add_zero, h1] at h0
   obtain rfl := Option.some.inj h0
   have := cells h3 vs (by simpa using hl) (fun q v' hq => by have := h (q + 1) v' (by simpa using hq); rw [← this]; congr 1; omega)
   simpa using CellsV.cons d v r _ h2 this

theorem slot_run (hI : Inv e x w m) {j : Nat} {ks : List Kd} {rows rows' : Rows} (hlk : lookup m j = some [.arr ks rows]) {b : Nat} (hb : x.loc j = some b) (o : Nat) (vs : List Value) (h1 : ∀ v ∈ vs, v.oneCell' = true)
  (hfit : ∀ arr : Array Value, (∃ ty, w.heap[b]? = some (.cells arr ty (0, 0))) → ArrV x.M ks rows arr.toList → x.cap j ≤ arr.size → o + vs.length ≤ arr.size ∧ ArrV x.M ks rows' (arr.toList.take o ++ vs ++ arr.toList.drop (o + vs.length))) :
  ∃ w', (storeCells ⟨b, o, none⟩ vs 0).run e.P w = .ok () w' ∧ Inv e x w' (write m j [.arr ks rows']) := by
 obtain ⟨b', ty, arr, p1, p2, p3, p4, p5⟩ := hI.slot j _ hlk
 rw [hb] at p1
 obtain rfl := Option.some.inj p1
 obtain ⟨arr', ty', q1, q2⟩ := hI.more.room j b _ hlk rfl hb
 rw [objOf_cells (isMp_arr _ _)] at p3
 rw [p3] at q1; cases q1
 obtain ⟨hf, harr⟩ := hfit arr ⟨ty, p3⟩ p4.arr q2
 refine ⟨_, run_storeCells_at e.P b o ty vs 0 arr w p3 (by simpa using hf) h1, ?_⟩
 simp only [Nat.add_zero]
 exact hI.withSlot j _ [.arr ks rows'] b hlk hb ty arr _ p3 (by simp only [List.size_toArray, List.length_append, List.length_take, List.length_drop, Array.length_toList]; omega) (fun h => by cases h) (.inr ⟨ks, rows', rfl, by simpa using harr⟩)

theorem After.writes {x' : X} {w' : World} {u : Value} {r : AV} {j : Nat} {cs : List AV} (h : Rep x' r u) (hI : Inv e x' w' (write m j cs)) (hx : Ext x x' [] []) : After e x x' w' m u (.full r [] [] [(j, cs)]) :=
 ⟨h, by simpa [dropAll, scrubM_nil, Den.writes] using hI.tidy, hx⟩

theorem clear_sound (hI : Inv e x w m) {t ty : TypeId} {j : Nat} {ks : List Kd} {off n c : Nat} {v : Value} {k : Eff → Option R} (hr : Rep x (.ms j ks off n c) v) (h : clearE e.P m [t] j ks off n k = some res) :
  ∃ eff w' u, k eff = some res ∧ After e x x w' m u eff ∧ (Builtin.clear_ #[t] ty #[v]).run e.P w = .ok u w' := by
 cases hr with | ms _ _ _ _ _ b o c' hb g1 g2 g3 => ?_
 unfold clearE at h
 simp only at h
 split at h
 ·rename_i el ht
  split at h
  ·rename_i z ks2 rows hz hlk
   split at h
   ·rename_i zr hzr
    split at h
    ·rename_i hc
     simp only [Bool.and_eq_true] at hc
     obtain rfl := Kd.sameL_eq hc.1
     split at h
     ·rename_i hlen
      have hlk := lookupA_eq hlk
      obtain ⟨i, zv, hi, hzz, hrz⟩ := zeroOf_rep x hz
      obtain ⟨hcv, hone⟩ := RepL.flats hrz hzr
      have hzk : zv.cells.size = ks.length := by rw [← Array.length_toList, ← hcv.length]; exact Row.ofKds_length hc.2
      have hlz := zeroCells_len zv.cells n
      rw [hzk] at hlz
      obtain ⟨w', hw, hI'⟩ := slot_run (rows' := rows.take off ++ List.replicate n zr ++ rows.drop (off + n)) hI hlk hb o (Builtin.zeroCells zv.cells n).toList (zeroCells_ones hone n) (by
       intro arr _ harr hcap
       have hal := harr.length
       have hle : (off + n) * ks.length ≤ rows.length * ks.length := Nat.mul_le_mul_right _ hlen
       rw [Nat.add_mul] at hle
       rw [Array.length_toList] at hal
       have hcn : n * ks.length ≤ c' * ks.length := Nat.mul_le_mul_right _ (by omega)
       refine ⟨by rw [hlz]; omega, ?_⟩
       by_cases hn : n = 0
       ·subst hn
        simp only [zeroCells_zero, List.replicate_zero, List.append_nil, List.length_nil, Nat.add_zero, List.take_append_drop]
        exact harr
       ·have ho := g2 (by omega)
        rw [hlz, ho, List.append_assoc, List.append_assoc]
        refine harr.joined off (by omega) (ArrV.zeros hc.2 hcv ?_ n)
        rw [← Nat.add_mul]
        exact harr.dropped (off + n) hlen)
      refine ⟨_, if n = 0 then w else w', .tuple #[], h, ?_, ?_⟩
      ·refine After.writes (.tup [] [] .nil) ?_ (Ext.refl _ _ _)
       by_cases hn : n = 0
       ·rw [if_pos hn]
        subst hn
        refine hI.congr fun q => ?_
        rw [lookup_write]
        split
        ·rename_i hq; rw [hq, hlk]; simp
        ·rfl
       ·rw [if_neg hn]; exact hI'
      ·have hzero : (zeroValue el).run e.P w = .ok zv w := by simp [zeroValue, typeInfo, hi, hzz]
       by_cases hn : n = 0
       ·subst hn
        simp [Builtin.clear_, run_underlying ht]
       ·rw [if_neg hn]
        obtain ⟨n, rfl⟩ : ∃ n', n = n' + 1 := ⟨n - 1, by omega⟩
        simp [Builtin.clear_, run_underlying ht, hzero, hw]
     ·cases h
    ·cases h
   ·cases h
  ·cases h
 ·cases h

theorem copy_sound (hI : Inv e x w m) {t t2 ty : TypeId} {j : Nat} {ks ks2 : List Kd} {off n c : Nat} {nl : Bool} {rows2 : Rows} {r2 : Right} {v v2 : Value} {k : Eff → Option R} (hr : Rep x (.ms j ks off n c) v) (hr2 : Rep x (.sl nl ks2 rows2 r2) v2)
  (h : copyE e.P m [t, t2] j ks off n ks2 rows2 k = some res) :
  ∃ eff w' u, k eff = some res ∧ After e x x w' m u eff ∧ (Builtin.copy_ #[t, t2] ty #[v, v2]).run e.P w = .ok u w' := by
 cases hr with | ms _ _ _ _ _ b o c' hb g1 g2 g3 => ?_
 unfold copyE at h
 simp only at h
 split at h
 ·rename_i ks3 rows hc hlk
  simp only [Bool.and_eq_true] at hc
  obtain rfl := Kd.sameL_eq hc.2
  split at h
  ·rename_i hks
   obtain rfl := Kd.sameL_eq hks
   split at h
   ·rename_i hlen
    have hlk := lookupA_eq hlk
    obtain ⟨el, ht, hsz⟩ := elemOk_size hc.1
    generalize hq : min rows2.length n = q at h
    cases hr2 with | sl _ _ _ _ _ hd _ => ?_
    have hcells : ∃ news : List Value, news.length = q * ks.length ∧ (∀ u ∈ news, u.oneCell' = true) ∧ (∃ b2 o2, RowsAt x.M b2 o2 ks (rows2.take q) ∧ ∀ (i : Nat) (u : Value), news[i]? = some u → x.M b2 (o2 + i) = some u) ∧
      (Builtin.firstCells ks.length q v2).run e.P w = .ok ⟨news⟩ w ∧ (Builtin.lenOf v2).run e.P w = .ok rows2.length w := by
     rcases hd.rows with ⟨_, rfl, rfl⟩ | ⟨ad, c2, _, rfl, hc2, hsp, hro⟩
     ·have : q = 0 := by simp at hq; omega
      subst this
      exact ⟨[], by simp, by simp, ⟨0, 0, by simpa using RowsAt.nil 0 0 ks, by simp⟩, by simp [Builtin.firstCells], by simp [Builtin.lenOf]⟩
     ·have hsp' : rows2.take q ≠ [] → ad.spot = none := fun hne => hsp fun e => hne (by rw [e]; simp)
      obtain ⟨news, hnl, hnv, hn1, hncell⟩ := cells_of_rows hI hsp' (hro.take q)
      have hql : (rows2.take q).length = q := by rw [List.length_take]; omega
      rw [hql] at hnl
      exact ⟨news, hnl, hn1, ⟨ad.block, ad.off, hro.take q, hnv⟩, run_firstCells_some (P := e.P) w ks.length q ad rows2.length c2 news hnl hncell, by simp [Builtin.lenOf]⟩
    obtain ⟨news, hnl, hn1, ⟨b2, o2, hro2, hnv⟩, hfirst, hlenof⟩ := hcells
    have hqn : q ≤ n := by omega
    have hql : (rows2.take q).length = q := by rw [List.length_take]; omega
    obtain ⟨w', hw, hI'⟩ := slot_run (rows' := rows.take off ++ rows2.take q ++ rows.drop (off + q)) hI hlk hb o news hn1 (by
     intro arr _ harr hcap
     have hal := harr.length
     have hle : (off + q) * ks.length ≤ rows.length * ks.length := Nat.mul_le_mul_right _ (by omega)
     rw [Nat.add_mul] at hle
     rw [Array.length_toList] at hal
     have hcn : q * ks.length ≤ c' * ks.length := Nat.mul_le_mul_right _ (by omega)
     refine ⟨by rw [hnl]; omega, ?_⟩
     by_cases hn : q = 0
     ·subst hn
      have : news = [] := List.eq_nil_of_length_eq_zero (by simpa using hnl)
      subst this
      simp only [List.take_zero, List.append_nil, List.length_nil, Nat.add_zero, List.take_append_drop]
      exact harr
     ·have ho := g2 (by omega)
      rw [hnl, ho, List.append_assoc, List.append_assoc]
      refine harr.joined off (by omega) (hro2.arr hnv (by rw [hql]; exact hnl) ?_)
      rw [← Nat.add_mul]
      exact harr.dropped (off + q) (by omega))
    refine ⟨_, w', .int .i64 (q : Nat), h, After.writes (rep_val x rfl) hI' (Ext.refl _ _ _), ?_⟩
    have hmin : Nat.min rows2.length n = q := hq
    simp [Builtin.copy_, run_underlying ht, hlenof, hmin, run_size hsz, hfirst, hw, goInt]
   ·cases h
  ·cases h
 ·cases h
end Go.Den
