import Derived.Test.YtlpnccpagikioaaDoorDen4
set_option linter.unusedVariables false
set_option linter.unusedSimpArgs false
set_option linter.unusedSectionVars false
/- Loads, stores, places. -/
namespace Go.Den
variable {e : Env} {x : X} {w : World} {m : Mem}

theorem run_size {P : Program} {t : TypeId} {n : Nat} (h : size? P t = some n) (w : World) : (sizeOf t).run P w = .ok n w := by
  unfold size? at h
  split at h
  · rename_i i hi; cases h; simp [sizeOf, typeInfo, hi]
  · cases h
theorem run_agg {P : Program} {t : TypeId} {b : Bool} (h : agg? P t = some b) (w : World) : (isAgg t).run P w = .ok b w := by
  unfold agg? at h
  split at h
  · rename_i hu; cases h; simp [isAgg, run_underlying hu]
  · rename_i hu; cases h; simp [isAgg, run_underlying hu]
  · rename_i d hs ha hu
    cases h
    simp only [isAgg, Sem.run_bind, run_underlying hu, Result.andThen_ok]
    cases d <;> first | rfl | exact (hs _ rfl).elim | exact (ha _ _ rfl).elim
  · cases h

theorem cell_add {w : World} {b off : Nat} {arr : Array Value} {ty : TypeId} {fr : Nat × Nat} (hg : w.heap[b]? = some (.cells arr ty fr)) (j : Nat) : w.cell? ((⟨b, off, none⟩ : Addr).add j) = arr[off + j]? := by
  rw [add_addr rfl]; simp [World.cell?, hg]

/-- A load of several cells, or of one. -/
theorem run_loadAgg {P : Program} {t : TypeId} {n : Nat} (ha : agg? P t = some true) (hn : size? P t = some n) {b off : Nat} {vs : List Value} (hl : vs.length = n)
    (hc : ∀ (j : Nat) (v : Value), vs[j]? = some v → w.cell? ((⟨b, off, none⟩ : Addr).add j) = some v) :
    (Instr.loadAt t (.pointer (some ⟨b, off, none⟩))).run P w = .ok (.agg ⟨vs⟩) w := by
  subst hl
  simp [Instr.loadAt, Instr.sureAddr, loadVar, run_agg ha, run_size hn, run_loadCells_list w _ vs hc]
theorem run_loadOne {P : Program} {t : TypeId} (ha : agg? P t = some false) {b off : Nat} {v : Value} (hc : w.cell? ⟨b, off, none⟩ = some v) :
    (Instr.loadAt t (.pointer (some ⟨b, off, none⟩))).run P w = .ok v w := by
  simp [Instr.loadAt, Instr.sureAddr, loadVar, run_agg ha, run_load, hc]

theorem load_sound (hI : Inv e x w m) {R : Type} {t : TypeId} {av : AV} {k : Eff → Option R} {res : R} {u : Value} (hr : Rep x av u) (h : loadE e.P m t av k = some res) :
    ∃ r v, k (.pure r) = some res ∧ Rep x r v ∧ (Instr.loadAt t u).run e.P w = .ok v w := by
  unfold loadE at h
  split at h
  · rename_i n ha hn
    split at h
    · rename_i j off
      split at h
      · rename_i cs hcs
        split at h
        · rename_i hle
          simp only [Nat.ble_eq] at hle
          cases hr with
          | pl _ _ b hb =>
          obtain ⟨hcs, hpl⟩ := lookupC_eq hcs
          obtain ⟨b', ty, arr, h1, _, h3, h4, _⟩ := hI.slot j cs hcs
          rw [hb] at h1
          obtain rfl := Option.some.inj h1
          have h4 := h4.plain hpl
          have hlen := h4.length
          refine ⟨_, .agg ⟨(arr.toList.drop off).take n⟩, h, .agg _ _ ((h4.drop off).take n), run_loadAgg ha hn (by simp only [List.length_take, List.length_drop]; omega) ?_⟩
          intro i v hi
          rw [cell_add h3, ← Array.getElem?_toList]
          rw [List.getElem?_take] at hi
          split at hi
          · rw [List.getElem?_drop] at hi; exact hi
          · cases hi
        · cases h
      · cases h
    · rename_i ks row off
      split at h
      · rename_i hle
        simp only [Nat.ble_eq] at hle
        cases hr with
        | pv _ _ _ b o hof hc =>
        obtain ⟨vs, h1, h2, h3⟩ := RepL.cells hof hc ((ks.drop off).take n) off (fun i hi => by
          simp only [List.length_take, List.length_drop] at hi
          rw [List.getElem?_take, if_pos (by omega), List.getElem?_drop])
        refine ⟨_, .agg ⟨vs⟩, h, .agg _ _ h2, run_loadAgg ha hn (by rw [h1]; simp only [List.length_take, List.length_drop]; omega) ?_⟩
        intro i v hi
        rw [add_addr rfl]
        exact hI.sub _ _ _ (h3 i v hi)
      · cases h
    · rename_i j ks i q
      split at h
      · rename_i ks2 rows hlk
        split at h
        · rename_i hc
          simp only [Bool.and_eq_true, Nat.ble_eq] at hc
          obtain ⟨hc1, hc2⟩ := hc
          have := Kd.sameL_eq hc1
          subst this
          split at h
          · rename_i hi
            cases hr with
            | pa _ _ _ _ b hb =>
            obtain ⟨b', ty, arr, h1, _, h3, h4, _⟩ := hI.slot j _ (lookupA_eq hlk)
            rw [hb] at h1
            obtain rfl := Option.some.inj h1
            obtain ⟨l1, vs, l2, g1, g2, g3, g4, _⟩ := h4.arr.split hi
            have hvl : vs.length = ks.length := by rw [← g4.length]; exact Row.ofKds_length g3
            have hrep := rep_cells_from g4 g3 ((ks.drop q).take n) q (fun i hi => by
              simp only [List.length_take, List.length_drop] at hi
              rw [List.getElem?_take, if_pos (by omega), List.getElem?_drop])
            refine ⟨_, .agg ⟨_⟩, h, .agg _ _ hrep, run_loadAgg ha hn (by simp only [List.length_take, List.length_drop]; omega) ?_⟩
            intro p v hp
            rw [cell_add h3, ← Array.getElem?_toList, g1]
            rw [List.getElem?_take] at hp
            split at hp
            · rw [List.getElem?_drop] at hp
              have hlt : q + p < vs.length := (List.getElem?_eq_some_iff.1 hp).1
              rw [List.getElem?_append_left (by simp only [List.length_append]; omega), List.getElem?_append_right (by omega), ← hp]
              congr 1; omega
            · cases hp
          · cases h
        · cases h
      · cases h
    · cases h
  · rename_i n ha hn
    split at h
    · rename_i j off
      split at h
      · rename_i cs hcs
        split at h
        · rename_i v hv
          cases hr with
          | pl _ _ b hb =>
          obtain ⟨hcs, hpl⟩ := lookupC_eq hcs
          obtain ⟨b', ty, arr, h1, _, h3, h4, _⟩ := hI.slot j cs hcs
          rw [hb] at h1
          obtain rfl := Option.some.inj h1
          obtain ⟨u, hu, hru⟩ := (h4.plain hpl).get hv
          rw [Array.getElem?_toList] at hu
          exact ⟨_, u, h, hru, run_loadOne ha (by simp [World.cell?, h3, hu])⟩
        · cases h
      · cases h
    · rename_i ks row off
      split at h
      · rename_i kd hkd
        cases hr with
        | pv _ _ _ b o hof hc =>
        obtain ⟨v, hv, hru⟩ := Rep.cell hof hc hkd
        exact ⟨_, v, h, hru, run_loadOne ha (hI.sub _ _ _ hv)⟩
      · cases h
    · rename_i j ks i q
      split at h
      · rename_i ks2 rows kd hlk hkd
        split at h
        · rename_i hc1
          have := Kd.sameL_eq hc1
          subst this
          split at h
          · rename_i hi
            cases hr with
            | pa _ _ _ _ b hb =>
            obtain ⟨b', ty, arr, h1, _, h3, h4, _⟩ := hI.slot j _ (lookupA_eq hlk)
            rw [hb] at h1
            obtain rfl := Option.some.inj h1
            obtain ⟨l1, vs, l2, g1, g2, g3, g4, _⟩ := h4.arr.split hi
            obtain ⟨v, hv, hru⟩ := rep_at g4 g3 hkd
            refine ⟨_, v, h, hru, run_loadOne ha ?_⟩
            have hlt : q < vs.length := (List.getElem?_eq_some_iff.1 hv).1
            simp only [World.cell?, h3, Option.isSome_none, Bool.false_eq_true, if_false]
            rw [← Array.getElem?_toList, g1, List.getElem?_append_left (by simp only [List.length_append]; omega), List.getElem?_append_right (by omega), ← hv]
            congr 1; omega
          · cases h
        · cases h
      · cases h
    · cases h
  · cases h

theorem Rep.one {av : AV} (hc : av.isCell = true) : ∀ {v}, Rep x av v → v.oneCell' = true := by
  intro v h
  cases h with
  | dv d v h => cases d with
    | val u => cases h; assumption
    | sl => exact RepD.one h
  | sl _ _ _ _ _ h _ => exact RepD.one h
  | agg => simp [AV.isCell] at hc
  | tup => simp [AV.isCell] at hc
  | junk => simp [AV.isCell] at hc
  | pl => rfl
  | pv => rfl
  | fn => rfl
  | ifc => rfl
  | ms => rfl
  | pa => rfl
theorem RepL.ones {x : X} : ∀ {l : List AV} {vs : List Value}, RepL x l vs → AV.areCells l = true → ∀ v ∈ vs, v.oneCell' = true
  | _, _, .nil, _, v, hv => by simp at hv
  | _, _, .cons a u l vs ha hl, hc, v, hv => by
    simp only [AV.areCells, Bool.and_eq_true] at hc
    rcases List.mem_cons.1 hv with rfl | hv
    · exact Rep.one hc.1 ha
    · exact RepL.ones hl hc.2 v hv

/-- A value's cells. -/
theorem Rep.cells {av : AV} {v : Value} {l : List AV} (h : Rep x av v) (hl : av.cells = some l) (h1 : AV.areCells l = true ∨ (∃ cs, av = .agg cs)) : RepL x l v.cells.toList := by
  cases h with
  | agg cs vs hh => simp only [AV.cells, Option.some.injEq] at hl; subst hl; exact hh
  | tup => simp [AV.cells] at hl
  | junk => simp [AV.cells] at hl
  | dv d v hh =>
    simp only [AV.cells, Option.some.injEq] at hl; subst hl
    have : v.oneCell' = true := RepD.one hh
    cases v <;> first | (simp [Value.oneCell'] at this; done) | exact .cons _ _ _ _ (.dv _ _ hh) .nil
  | sl n ks rows r v hh hr =>
    simp only [AV.cells, Option.some.injEq] at hl; subst hl
    have : v.oneCell' = true := RepD.one hh
    cases v <;> first | (simp [Value.oneCell'] at this; done) | exact .cons _ _ _ _ (.sl _ _ _ _ _ hh hr) .nil
  | pl k off b hh => simp only [AV.cells, Option.some.injEq] at hl; subst hl; exact .cons _ _ _ _ (.pl _ _ _ hh) .nil
  | pv ks row off b o h2 h3 => simp only [AV.cells, Option.some.injEq] at hl; subst hl; exact .cons _ _ _ _ (.pv _ _ _ _ _ h2 h3) .nil
  | fn f cs vs hh => simp only [AV.cells, Option.some.injEq] at hl; subst hl; exact .cons _ _ _ _ (.fn _ _ _ hh) .nil
  | ifc t a v hh => simp only [AV.cells, Option.some.injEq] at hl; subst hl; exact .cons _ _ _ _ (.ifc _ _ _ hh) .nil
  | ms k kd off n c b o c' hh g1 g2 g3 => simp only [AV.cells, Option.some.injEq] at hl; subst hl; exact .cons _ _ _ _ (.ms _ _ _ _ _ _ _ _ hh g1 g2 g3) .nil
  | pa k kd i j b hh => simp only [AV.cells, Option.some.injEq] at hl; subst hl; exact .cons _ _ _ _ (.pa _ _ _ _ _ hh) .nil
theorem Rep.cells' {av : AV} {v : Value} {l : List AV} (h : Rep x av v) (hl : av.cells = some l) : RepL x l v.cells.toList := by
  by_cases h1 : ∃ cs, av = .agg cs
  · exact h.cells hl (.inr h1)
  · refine h.cells hl (.inl ?_)
    cases h with
    | agg cs => exact absurd ⟨cs, rfl⟩ h1
    | tup => simp [AV.cells] at hl
    | junk => simp [AV.cells] at hl
    | dv d v hh =>
      simp only [AV.cells, Option.some.injEq] at hl; subst hl
      have h5 : v.oneCell' = true := RepD.one hh
      cases hh with
      | val =>  cases v <;> first | (simp [Value.oneCell'] at h5; done) | rfl
      | nil => rfl
      | sl => rfl
    | sl => simp only [AV.cells, Option.some.injEq] at hl; subst hl; rfl
    | pl => simp only [AV.cells, Option.some.injEq] at hl; subst hl; rfl
    | pv => simp only [AV.cells, Option.some.injEq] at hl; subst hl; rfl
    | fn => simp only [AV.cells, Option.some.injEq] at hl; subst hl; rfl
    | ifc => simp only [AV.cells, Option.some.injEq] at hl; subst hl; rfl
    | ms => simp only [AV.cells, Option.some.injEq] at hl; subst hl; rfl
    | pa => simp only [AV.cells, Option.some.injEq] at hl; subst hl; rfl

theorem RepL.flats {x : X} : ∀ {l : List AV} {vs : List Value} {r : Row}, RepL x l vs → AV.flats l = some r → CellsV x.M r vs ∧ ∀ v ∈ vs, v.oneCell' = true
  | _, _, _, .nil, h => by simp only [AV.flats, Option.some.injEq] at h; subst h; exact ⟨.nil, fun v hv => by cases hv⟩
  | _, _, _, .cons b v l vs hb hl, h => by
    simp only [AV.flats] at h
    split at h
    · rename_i d hd
      split at h
      · rename_i r hr
        cases h
        obtain ⟨h1, h2⟩ := RepL.flats hl hr
        have hd' : RepD x.M d v := by
          cases hb with
          | dv d' _ h => simp only [AV.flat, Option.some.injEq] at hd; subst hd; exact h
          | sl n ks rows r _ h _ => simp only [AV.flat, Option.some.injEq] at hd; subst hd; exact h
          | agg => simp [AV.flat] at hd
          | tup => simp [AV.flat] at hd
          | pl => simp [AV.flat] at hd
          | pv => simp [AV.flat] at hd
          | fn => simp [AV.flat] at hd
          | ifc => simp [AV.flat] at hd
          | ms => simp [AV.flat] at hd
          | pa => simp [AV.flat] at hd
          | junk => simp [AV.flat] at hd
        refine ⟨.cons _ _ _ _ hd' h1, fun u hu => ?_⟩
        rcases List.mem_cons.1 hu with rfl | hu
        · exact RepD.one hd'
        · exact h2 u hu
      · cases h
    · cases h
theorem ofKds_append : ∀ {ks : List Kd} {r : Row}, Row.ofKds ks r = true → ∀ {ks' : List Kd} {r' : Row}, Row.ofKds ks' r' = true → Row.ofKds (ks ++ ks') (r ++ r') = true
  | [], [], _, _, _, h => h
  | k :: ks, d :: r, h, _, _, h' => by
    simp only [Row.ofKds, List.cons_append, Bool.and_eq_true] at h ⊢
    exact ⟨h.1, ofKds_append h.2 h'⟩
  | [], _ :: _, h, _, _, _ => by simp [Row.ofKds] at h
  | _ :: _, [], h, _, _, _ => by simp [Row.ofKds] at h
theorem ofKds_take : ∀ {ks : List Kd} {r : Row}, Row.ofKds ks r = true → ∀ n, Row.ofKds (ks.take n) (r.take n) = true
  | [], [], _, n => by simp [Row.ofKds]
  | k :: ks, d :: r, h, 0 => rfl
  | k :: ks, d :: r, h, n + 1 => by
    simp only [Row.ofKds, List.take_succ_cons, Bool.and_eq_true] at h ⊢
    exact ⟨h.1, ofKds_take h.2 n⟩
  | [], _ :: _, h, _ => by simp [Row.ofKds] at h
  | _ :: _, [], h, _ => by simp [Row.ofKds] at h
theorem ofKds_drop : ∀ {ks : List Kd} {r : Row}, Row.ofKds ks r = true → ∀ n, Row.ofKds (ks.drop n) (r.drop n) = true
  | [], [], _, n => by simp [Row.ofKds]
  | k :: ks, d :: r, h, 0 => h
  | k :: ks, d :: r, h, n + 1 => by
    simp only [Row.ofKds, List.drop_succ_cons, Bool.and_eq_true] at h ⊢
    exact ofKds_drop h.2 n
  | [], _ :: _, h, _ => by simp [Row.ofKds] at h
  | _ :: _, [], h, _ => by simp [Row.ofKds] at h
theorem ofKds_splice {ks : List Kd} {r new : Row} {q n : Nat} (h : Row.ofKds ks r = true) (hn : Row.ofKds ((ks.drop q).take n) new = true) (hl : new.length = n) : Row.ofKds ks (r.take q ++ new ++ r.drop (q + new.length)) = true := by
  have := ofKds_append (ofKds_append (ofKds_take h q) hn) (ofKds_drop h (q + n))
  rw [hl]
  have e1 : ks.take q ++ (ks.drop q).take n ++ ks.drop (q + n) = ks := by
    rw [← List.take_add, List.take_append_drop]
  rwa [e1] at this

theorem store_sound (hI : Inv e x w m) {R : Type} {t : TypeId} {av bv : AV} {k : Eff → Option R} {res : R} {u v : Value} (hr : Rep x av u) (hv : Rep x bv v) (h : storeE e.P m t av bv k = some res) :
    ∃ w' p cs, k (.full .junk [] [] [(p, cs)]) = some res ∧ (Instr.storeAt t u v).run e.P w = .ok () w' ∧ Inv e x w' (write m p cs) := by
  unfold storeE at h
  split at h
  · rename_i n j off new hn hnew
    split at h
    · rename_i cs hcs
      split at h
      · rename_i hc
        simp only [Bool.and_eq_true, Nat.ble_eq, beq_eq] at hc
        obtain ⟨⟨hc1, hc2⟩, hc3⟩ := hc
        cases hr with
        | pl _ _ b hb =>
        obtain ⟨hcs, hpl⟩ := lookupC_eq hcs
        obtain ⟨b', ty, arr, h1, _, h3, h4, h5⟩ := hI.slot j cs hcs
        rw [hb] at h1
        obtain rfl := Option.some.inj h1
        have h4 := h4.plain hpl
        have hvs := hv.cells' hnew
        have hlen : cs.length = arr.size := by rw [← Array.length_toList]; exact h4.length
        have hvl := hvs.length
        have hone := hvs.ones hc3
        have hst := run_storeCells_at e.P b off ty v.cells.toList 0 arr w h3 (by simp only [Nat.add_zero]; rw [← hvl]; omega) hone
        simp only [Nat.add_zero] at hst
        refine ⟨_, j, _, h, ?_, hI.withSlot j cs (splice cs off new) b hcs hb ty arr (arr.toList.take off ++ v.cells.toList ++ arr.toList.drop (off + v.cells.toList.length)).toArray h3 (by simp only [List.size_toArray, List.length_append, List.length_take, List.length_drop, Array.length_toList]; omega) ?_⟩
        · have hsz : v.cells.size = n := by rw [← Array.length_toList]; omega
          simp [Instr.storeAt, Instr.sureAddr, storeVar, run_size hn, hsz, hst]
        · unfold splice
          rw [hvl]
          exact .inl (((h4.take off).append hvs).append (h4.drop _))
      · cases h
    · cases h
  · rename_i n j ks i q new hn hnew
    split at h
    · rename_i ks2 rows fl hlk hfl
      split at h
      · rename_i hc
        simp only [Bool.and_eq_true, Nat.ble_eq, beq_eq] at hc
        obtain ⟨⟨⟨hc1, hc2⟩, hc3⟩, hc4⟩ := hc
        have := Kd.sameL_eq hc1
        subst this
        split at h
        · rename_i hi
          cases hr with
          | pa _ _ _ _ b hb =>
          obtain ⟨b', ty, arr, h1, _, h3, h4, h5⟩ := hI.slot j _ (lookupA_eq hlk)
          rw [hb] at h1
          obtain rfl := Option.some.inj h1
          obtain ⟨l1, vs, l2, g1, g2, g3, g4, g5⟩ := h4.arr.split hi
          have hvs := hv.cells' hnew
          obtain ⟨hfv, hone⟩ := RepL.flats hvs hfl
          have hvl := hvs.length
          have hvl2 : vs.length = ks.length := by rw [← g4.length]; exact Row.ofKds_length g3
          have hsz : arr.size = (l1 ++ vs ++ l2).length := by rw [← g1, Array.length_toList]
          simp only [List.length_append] at hsz
          have hst := run_storeCells_at e.P b (i * ks.length + q) ty v.cells.toList 0 arr w h3 (by simp only [Nat.add_zero]; rw [← hvl]; omega) hone
          simp only [Nat.add_zero] at hst
          refine ⟨_, j, _, h, ?_, hI.withSlot j _ [.arr ks (rows.set i (spliceD (rows.getD i []) q fl))] b (lookupA_eq hlk) hb ty arr (arr.toList.take (i * ks.length + q) ++ v.cells.toList ++ arr.toList.drop (i * ks.length + q + v.cells.toList.length)).toArray h3 (by simp only [List.size_toArray, List.length_append, List.length_take, List.length_drop, Array.length_toList]; omega) ?_⟩
          · have hsz : v.cells.size = n := by rw [← Array.length_toList]; omega
            simp [Instr.storeAt, Instr.sureAddr, storeVar, run_size hn, hsz, hst]
          · have hrow : CellsV x.M (spliceD (rows.getD i []) q fl) (vs.take q ++ v.cells.toList ++ vs.drop (q + v.cells.toList.length)) := by
              unfold spliceD
              rw [hfv.length]
              exact ((g4.take q).append hfv).append (g4.drop _)
            have hk : Row.ofKds ks (spliceD (rows.getD i []) q fl) = true := by
              unfold spliceD
              have := ofKds_splice g3 hc4 (by rw [hfv.length, ← hvl]; omega)
              exact this
            have := g5 _ _ hk hrow
            refine .inr ⟨ks, _, rfl, ?_⟩
            have e1 : arr.toList.take (i * ks.length + q) ++ v.cells.toList ++ arr.toList.drop (i * ks.length + q + v.cells.toList.length) = l1 ++ (vs.take q ++ v.cells.toList ++ vs.drop (q + v.cells.toList.length)) ++ l2 := by
              rw [g1, List.append_assoc l1 vs l2, ← g2, List.take_length_add_append, List.take_append_of_le_length (by omega), Nat.add_assoc, List.drop_length_add_append, List.drop_append_of_le_length (by rw [← hvl]; omega)]
              simp only [List.append_assoc]
            simp only [e1]
            exact this
        · cases h
      · cases h
    · cases h
  · cases h

theorem field_sound {P : Program} {s ft : TypeId} {f off n : Nat} (h : field? P s f = some (off, ft)) (hn : size? P ft = some n) (h0 : 0 < n) (b o : Nat) (w : World) :
    (Instr.fieldAt s (.pointer (some ⟨b, o, none⟩)) f).run P w = .ok (.pointer (some ⟨b, o + off, none⟩)) w := by
  unfold field? at h
  split at h
  · rename_i fs hu
    split at h
    · rename_i fl hf
      simp only [Option.some.injEq, Prod.mk.injEq] at h
      obtain ⟨rfl, rfl⟩ := h
      have hne : n ≠ 0 := by omega
      simp [Instr.fieldAt, run_underlying hu, hf, Instr.sureAddr, fieldPlace, run_size hn, hne, add_addr]
    · cases h
  · cases h
end Go.Den
