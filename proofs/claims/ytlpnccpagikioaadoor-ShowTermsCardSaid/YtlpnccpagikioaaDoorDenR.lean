import Derived.Test.YtlpnccpagikioaaDoorDen12
set_option linter.unusedVariables false
set_option linter.unusedSimpArgs false
set_option linter.unusedSectionVars false
/- clear and copy on arrays that can be written. -/
namespace Go.Den
variable {e : Env} {x : X} {w : World} {m : Mem} {R : Type} {res : R}

theorem zeroCells_succ (z : Array Value) (n : Nat) : (Builtin.zeroCells z (n + 1)).toList = z.toList ++ (Builtin.zeroCells z n).toList := by
  apply List.ext_getElem?
  intro i
  simp only [Builtin.zeroCells]
  by_cases hz : z.size = 0
  · have : z = #[] := Array.eq_empty_of_size_eq_zero hz
    subst this; simp
  by_cases h1 : i < z.size
  · rw [List.getElem?_append_left (by simpa using h1), Array.getElem?_toList, Array.getElem?_map, Array.getElem?_range, if_pos (by rw [Nat.add_mul]; omega)]
    simp only [Option.map_some, Nat.mod_eq_of_lt h1]
    rw [Array.getElem?_toList, Array.getElem?_eq_getElem h1, getElem!_pos z i h1]
  · rw [List.getElem?_append_right (by simpa using Nat.le_of_not_lt h1)]
    simp only [Array.length_toList, Array.getElem?_toList, Array.getElem?_map, Array.getElem?_range]
    have hmod : i % z.size = (i - z.size) % z.size := by
      conv => lhs; rw [show i = (i - z.size) + z.size by omega, Nat.add_mod_right]
    by_cases h2 : i - z.size < n * z.size
    · rw [if_pos h2, if_pos (by rw [Nat.add_mul]; omega)]
      simp only [Option.map_some, hmod]
    · rw [if_neg h2, if_neg (by rw [Nat.add_mul]; omega)]
theorem zeroCells_zero (z : Array Value) : (Builtin.zeroCells z 0).toList = [] := by simp [Builtin.zeroCells]
theorem zeroCells_len (z : Array Value) (n : Nat) : (Builtin.zeroCells z n).toList.length = n * z.size := by simp [Builtin.zeroCells]
theorem ArrV.zeros {M : Mm} {ks : List Kd} {zr : Row} {z : Array Value} (ho : Row.ofKds ks zr = true) (hz : CellsV M zr z.toList) {rows : Rows} {l : List Value} (h : ArrV M ks rows l) :
    ∀ n, ArrV M ks (List.replicate n zr ++ rows) ((Builtin.zeroCells z n).toList ++ l)
  | 0 => by simpa [zeroCells_zero] using h
  | n + 1 => by
    rw [zeroCells_succ, List.replicate_succ, List.append_assoc]
    exact .cons zr _ _ _ ho hz (ArrV.zeros ho hz h n)
theorem zeroCells_ones {z : Array Value} (h : ∀ v ∈ z.toList, v.oneCell' = true) : ∀ n, ∀ v ∈ (Builtin.zeroCells z n).toList, v.oneCell' = true
  | 0, v, hv => by rw [zeroCells_zero] at hv; cases hv
  | n + 1, v, hv => by
    rw [zeroCells_succ] at hv
    rcases List.mem_append.1 hv with hv | hv
    · exact h v hv
    · exact zeroCells_ones h n v hv
theorem ArrV.joined {M : Mm} {ks : List Kd} : ∀ {rows : Rows} {l : List Value}, ArrV M ks rows l → ∀ (off : Nat), off ≤ rows.length → ∀ {rows2 : Rows} {l2 : List Value}, ArrV M ks rows2 l2 → ArrV M ks (rows.take off ++ rows2) (l.take (off * ks.length) ++ l2)
  | _, _, .nil l, off, h, rows2, l2, h2 => by
    simp only [List.length_nil, Nat.le_zero] at h
    subst h; simpa using h2
  | _, _, .cons row vs rows l h1 h3 h4, 0, h, rows2, l2, h2 => by simpa using h2
  | _, _, .cons row vs rows l h1 h3 h4, off + 1, h, rows2, l2, h2 => by
    have hl := Row.ofKds_length h1
    have hv := h3.length
    have e1 : (vs ++ l).take ((off + 1) * ks.length) = vs ++ l.take (off * ks.length) := by
      rw [Nat.add_mul, Nat.one_mul, show off * ks.length + ks.length = vs.length + off * ks.length by omega, List.take_length_add_append]
    rw [e1, List.take_succ_cons, List.cons_append, List.append_assoc]
    exact .cons row vs _ _ h1 h3 (ArrV.joined h4 off (by simpa using h) h2)
theorem ArrV.dropped {M : Mm} {ks : List Kd} : ∀ {rows : Rows} {l : List Value}, ArrV M ks rows l → ∀ n, n ≤ rows.length → ArrV M ks (rows.drop n) (l.drop (n * ks.length))
  | _, _, .nil l, n, _ => by simpa using ArrV.nil _
  | _, _, .cons row vs rows l h1 h2 h3, 0, _ => by simpa using ArrV.cons row vs rows l h1 h2 h3
  | _, _, .cons row vs rows l h1 h2 h3, n + 1, hn => by
    have := ArrV.dropped h3 n (by simpa using hn)
    have hl := Row.ofKds_length h1
    have hv := h2.length
    rw [List.drop_succ_cons, Nat.add_mul, Nat.one_mul, show n * ks.length + ks.length = vs.length + n * ks.length by omega, ← List.drop_drop, List.drop_left]
    exact this
theorem RowsAt.arr {M : Mm} : ∀ {b o : Nat} {ks : List Kd} {rows : Rows}, RowsAt M b o ks rows → ∀ {vs : List Value}, (∀ q v, vs[q]? = some v → M b (o + q) = some v) → vs.length = rows.length * ks.length →
    ∀ {rows2 : Rows} {l : List Value}, ArrV M ks rows2 l → ArrV M ks (rows ++ rows2) (vs ++ l)
  | _, _, _, _, .nil b o ks, vs, h, hl, rows2, l, h2 => by
    have : vs = [] := List.eq_nil_of_length_eq_zero (by simpa using hl)
    subst this; simpa using h2
  | _, _, _, _, .cons b o ks row rows h1 h2 h3, vs, h, hl, rows2, l, hr => by
    have hlen := Row.ofKds_length h1
    simp only [List.length_cons, Nat.add_mul, Nat.one_mul] at hl
    have hc : CellsV M row (vs.take row.length) := cells h2 vs (by omega) h
    have := RowsAt.arr h3 (vs := vs.drop row.length) (fun q v hq => by
      rw [List.getElem?_drop] at hq
      have := h _ _ hq
      rw [← this]; congr 1; omega) (by rw [List.length_drop]; omega) hr
    rw [← List.take_append_drop row.length vs, List.cons_append, List.append_assoc]
    exact .cons row _ _ _ h1 hc this
where cells {M : Mm} : ∀ {b o : Nat} {row : Row}, CellsAt M b o row → ∀ (vs : List Value), row.length ≤ vs.length → (∀ q v, vs[q]? = some v → M b (o + q) = some v) → CellsV M row (vs.take row.length)
  | _, _, _, .nil b o, vs, _, _ => by simpa using CellsV.nil
  | _, _, _, .cons b o d v r h1 h2 h3, vs, hl, h => by
    cases vs with
    | nil => simp at hl
    | cons u vs =>
      have h0 := h 0 u rfl
      rw [Nat.add_zero, h1] at h0
      obtain rfl := Option.some.inj h0
      have := cells h3 vs (by simpa using hl) (fun q v' hq => by have := h (q + 1) v' (by simpa using hq); rw [← this]; congr 1; omega)
      simpa using CellsV.cons d v r _ h2 this

/-- A run of cells of a slot is written. -/
theorem slot_run (hI : Inv e x w m) {j : Nat} {ks : List Kd} {rows rows' : Rows} (hlk : lookup m j = some [.arr ks rows]) {b : Nat} (hb : x.loc j = some b) (o : Nat) (vs : List Value) (h1 : ∀ v ∈ vs, v.oneCell' = true)
    (hfit : ∀ arr : Array Value, (∃ ty, w.heap[b]? = some (.cells arr ty (0, 0))) → ArrV x.M ks rows arr.toList → x.cap j ≤ arr.size → o + vs.length ≤ arr.size ∧ ArrV x.M ks rows' (arr.toList.take o ++ vs ++ arr.toList.drop (o + vs.length))) :
    ∃ w', (storeCells ⟨b, o, none⟩ vs 0).run e.P w = .ok () w' ∧ Inv e x w' (write m j [.arr ks rows']) := by
  obtain ⟨b', ty, arr, p1, p2, p3, p4, p5⟩ := hI.slot j _ hlk
  rw [hb] at p1
  obtain rfl := Option.some.inj p1
  obtain ⟨arr', ty', q1, q2⟩ := hI.more.room j b _ hlk hb
  rw [p3] at q1; cases q1
  obtain ⟨hf, harr⟩ := hfit arr ⟨ty, p3⟩ p4.arr q2
  refine ⟨_, run_storeCells_at e.P b o ty vs 0 arr w p3 (by simpa using hf) h1, ?_⟩
  simp only [Nat.add_zero]
  exact hI.withSlot j _ [.arr ks rows'] b hlk hb ty arr _ p3 (by simp only [List.size_toArray, List.length_append, List.length_take, List.length_drop, Array.length_toList]; omega) (.inr ⟨ks, rows', rfl, by simpa using harr⟩)

theorem After.writes {x' : X} {w' : World} {u : Value} {r : AV} {j : Nat} {cs : List AV} (h : Rep x' r u) (hI : Inv e x' w' (write m j cs)) (hx : Ext x x' [] []) : After e x x' w' m u (.full r [] [] [(j, cs)]) :=
  ⟨h, by simpa [dropAll, scrubM_nil, Den.writes] using hI, hx⟩

theorem clear_sound (hI : Inv e x w m) {t ty : TypeId} {j : Nat} {ks : List Kd} {off n c : Nat} {v : Value} {k : Eff → Option R} (hr : Rep x (.ms j ks off n c) v) (h : clearE e.P m [t] j ks off n k = some res) :
    ∃ eff w' u, k eff = some res ∧ After e x x w' m u eff ∧ (Builtin.clear_ #[t] ty #[v]).run e.P w = .ok u w' := by
  cases hr with | ms _ _ _ _ _ b o c' hb g1 g2 g3 => ?_
  unfold clearE at h
  simp only at h
  split at h
  · rename_i el ht
    split at h
    · rename_i z ks2 rows hz hlk
      split at h
      · rename_i zr hzr
        split at h
        · rename_i hc
          simp only [Bool.and_eq_true] at hc
          obtain rfl := Kd.sameL_eq hc.1
          split at h
          · rename_i hlen
            have hlk := lookupA_eq hlk
            obtain ⟨i, zv, hi, hzz, hrz⟩ := zeroOf_rep x hz
            obtain ⟨hcv, hone⟩ := RepL.flats hrz hzr
            have hzk : zv.cells.size = ks.length := by rw [← Array.length_toList, ← hcv.length]; exact Row.ofKds_length hc.2
            have hlz := zeroCells_len zv.cells n
            rw [hzk] at hlz
            obtain ⟨w', hw, hI'⟩ := slot_run (rows' := rows.take off ++ List.replicate n zr ++ rows.drop (off + n)) hI hlk hb o (Builtin.zeroCells zv.cells n).toList (zeroCells_ones hone n) (by
              intro arr _ harr hcap
              have hal := harr.length
              have hle : (off + n) * ks.length ≤ rows.length * ks.length := Nat.mul_le_mul_right _ hlen
              rw [Nat.add_mul] at hle
              rw [Array.length_toList] at hal
              have hcn : n * ks.length ≤ c' * ks.length := Nat.mul_le_mul_right _ (by omega)
              refine ⟨by rw [hlz]; omega, ?_⟩
              by_cases hn : n = 0
              · subst hn
                simp only [zeroCells_zero, List.replicate_zero, List.append_nil, List.length_nil, Nat.add_zero, List.take_append_drop]
                exact harr
              · have ho := g2 (by omega)
                rw [hlz, ho, List.append_assoc, List.append_assoc]
                refine harr.joined off (by omega) (ArrV.zeros hc.2 hcv ?_ n)
                rw [← Nat.add_mul]
                exact harr.dropped (off + n) hlen)
            refine ⟨_, if n = 0 then w else w', .tuple #[], h, ?_, ?_⟩
            · refine After.writes (.tup [] [] .nil) ?_ (Ext.refl _ _ _)
              by_cases hn : n = 0
              · rw [if_pos hn]
                subst hn
                refine hI.congr fun q => ?_
                rw [lookup_write]
                split
                · rename_i hq; rw [hq, hlk]; simp
                · rfl
              · rw [if_neg hn]; exact hI'
            · have hzero : (zeroValue el).run e.P w = .ok zv w := by simp [zeroValue, typeInfo, hi, hzz]
              by_cases hn : n = 0
              · subst hn
                simp [Builtin.clear_, run_underlying ht]
              · rw [if_neg hn]
                obtain ⟨n, rfl⟩ : ∃ n', n = n' + 1 := ⟨n - 1, by omega⟩
                simp [Builtin.clear_, run_underlying ht, hzero, hw]
          · cases h
        · cases h
      · cases h
    · cases h
  · cases h

theorem copy_sound (hI : Inv e x w m) {t t2 ty : TypeId} {j : Nat} {ks ks2 : List Kd} {off n c : Nat} {nl : Bool} {rows2 : Rows} {r2 : Right} {v v2 : Value} {k : Eff → Option R} (hr : Rep x (.ms j ks off n c) v) (hr2 : Rep x (.sl nl ks2 rows2 r2) v2)
    (h : copyE e.P m [t, t2] j ks off n ks2 rows2 k = some res) :
    ∃ eff w' u, k eff = some res ∧ After e x x w' m u eff ∧ (Builtin.copy_ #[t, t2] ty #[v, v2]).run e.P w = .ok u w' := by
  cases hr with | ms _ _ _ _ _ b o c' hb g1 g2 g3 => ?_
  unfold copyE at h
  simp only at h
  split at h
  · rename_i ks3 rows hc hlk
    simp only [Bool.and_eq_true] at hc
    obtain rfl := Kd.sameL_eq hc.2
    split at h
    · rename_i hks
      obtain rfl := Kd.sameL_eq hks
      split at h
      · rename_i hlen
        have hlk := lookupA_eq hlk
        obtain ⟨el, ht, hsz⟩ := elemOk_size hc.1
        generalize hq : min rows2.length n = q at h
        cases hr2 with | sl _ _ _ _ _ hd _ => ?_
        have hcells : ∃ news : List Value, news.length = q * ks.length ∧ (∀ u ∈ news, u.oneCell' = true) ∧ (∃ b2 o2, RowsAt x.M b2 o2 ks (rows2.take q) ∧ ∀ (i : Nat) (u : Value), news[i]? = some u → x.M b2 (o2 + i) = some u) ∧
            (Builtin.firstCells ks.length q v2).run e.P w = .ok ⟨news⟩ w ∧ (Builtin.lenOf v2).run e.P w = .ok rows2.length w := by
          rcases hd.rows with ⟨_, rfl, rfl⟩ | ⟨ad, c2, _, rfl, hc2, hsp, hro⟩
          · have : q = 0 := by simp at hq; omega
            subst this
            exact ⟨[], by simp, by simp, ⟨0, 0, by simpa using RowsAt.nil 0 0 ks, by simp⟩, by simp [Builtin.firstCells], by simp [Builtin.lenOf]⟩
          · have hsp' : rows2.take q ≠ [] → ad.spot = none := fun hne => hsp fun e => hne (by rw [e]; simp)
            obtain ⟨news, hnl, hnv, hn1, hncell⟩ := cells_of_rows hI hsp' (hro.take q)
            have hql : (rows2.take q).length = q := by rw [List.length_take]; omega
            rw [hql] at hnl
            exact ⟨news, hnl, hn1, ⟨ad.block, ad.off, hro.take q, hnv⟩, run_firstCells_some (P := e.P) w ks.length q ad rows2.length c2 news hnl hncell, by simp [Builtin.lenOf]⟩
        obtain ⟨news, hnl, hn1, ⟨b2, o2, hro2, hnv⟩, hfirst, hlenof⟩ := hcells
        have hqn : q ≤ n := by omega
        have hql : (rows2.take q).length = q := by rw [List.length_take]; omega
        obtain ⟨w', hw, hI'⟩ := slot_run (rows' := rows.take off ++ rows2.take q ++ rows.drop (off + q)) hI hlk hb o news hn1 (by
          intro arr _ harr hcap
          have hal := harr.length
          have hle : (off + q) * ks.length ≤ rows.length * ks.length := Nat.mul_le_mul_right _ (by omega)
          rw [Nat.add_mul] at hle
          rw [Array.length_toList] at hal
          have hcn : q * ks.length ≤ c' * ks.length := Nat.mul_le_mul_right _ (by omega)
          refine ⟨by rw [hnl]; omega, ?_⟩
          by_cases hn : q = 0
          · subst hn
            have : news = [] := List.eq_nil_of_length_eq_zero (by simpa using hnl)
            subst this
            simp only [List.take_zero, List.append_nil, List.length_nil, Nat.add_zero, List.take_append_drop]
            exact harr
          · have ho := g2 (by omega)
            rw [hnl, ho, List.append_assoc, List.append_assoc]
            refine harr.joined off (by omega) (hro2.arr hnv (by rw [hql]; exact hnl) ?_)
            rw [← Nat.add_mul]
            exact harr.dropped (off + q) (by omega))
        refine ⟨_, w', .int .i64 (q : Nat), h, After.writes (rep_val x rfl) hI' (Ext.refl _ _ _), ?_⟩
        have hmin : Nat.min rows2.length n = q := hq
        simp [Builtin.copy_, run_underlying ht, hlenof, hmin, run_size hsz, hfirst, hw, goInt]
      · cases h
    · cases h
  · cases h
end Go.Den
