import Derived.Test.YtlpnccpagikioaaDoorDen9
set_option linter.unusedVariables false
set_option linter.unusedSimpArgs false
set_option linter.unusedSectionVars false
/- Every operation is sound. -/
namespace Go.Den
variable {e : Env} {x : X} {w : World} {m : Mem} {tm : List AV} {a : Act} {next : Act → World → Prop} {Q : Exit → Act → World → Prop}

theorem find_fill (off : Nat) : ∀ (vs : List Value) (j : Nat) (cs : Array Value), off + j + vs.length ≤ cs.size →
    ((vs.zipIdx j).foldl (fun cs (p : Value × Nat) => cs.setIfInBounds (off + p.2) p.1) cs).toList = cs.toList.take (off + j) ++ vs ++ cs.toList.drop (off + j + vs.length)
  | [], j, cs, _ => by simp
  | v :: vs, j, cs, h => by
    simp only [List.zipIdx_cons, List.foldl_cons, List.length_cons] at h ⊢
    have ih := find_fill off vs (j + 1) (cs.setIfInBounds (off + j) v) (by simp; omega)
    rw [ih]
    simp only [Array.toList_setIfInBounds]
    have hlt : off + j < cs.toList.length := by rw [Array.length_toList]; omega
    have hlen : (cs.toList.take (off + j)).length = off + j := by rw [List.length_take]; omega
    rw [List.take_set, List.drop_set, if_pos (by omega), show off + (j + 1) = off + j + 1 by omega, List.take_succ_eq_append_getElem hlt, List.set_append_right _ _ (by omega), hlen, Nat.sub_self]
    simp only [List.set_cons_zero, List.append_assoc, List.singleton_append]
    rw [show off + j + 1 + vs.length = off + j + (vs.length + 1) by omega]

/-- A part laid over a composite's cells. -/
theorem fill_step {place : Nat → Option (Nat × Nat)} {cs : Array Value} {i off n : Nat} {v : Value} {rest : List (Nat × Value)} (hp : place i = some (off, n)) (hn : v.cells.size = n) (hle : off + n ≤ cs.size) :
    ∃ cs' : Array Value, cs'.toList = cs.toList.take off ++ v.cells.toList ++ cs.toList.drop (off + v.cells.toList.length) ∧ Instr.fill place cs ((i, v) :: rest) = Instr.fill place cs' rest := by
  have h := find_fill off v.cells.toList 0 cs (by simp only [Nat.add_zero, Array.length_toList]; omega)
  simp only [Nat.add_zero] at h
  refine ⟨_, h, ?_⟩
  have hc : ¬ (v.cells.size ≠ n || decide (off + v.cells.size > cs.size)) = true := by
    simp only [Bool.or_eq_true, decide_eq_true_eq]; omega
  simp only [Instr.fill, hp]
  rw [if_neg (by simpa using hc)]
  congr 1
  rw [← Array.foldl_toList]
  simp

theorem place_fill {P : Program} {t : TypeId} (hs : sized P t = true) : ∃ place : Nat → Option (Nat × Nat), (∀ i off n ty, place? P t i = some (off, n, ty) → place i = some (off, n)) ∧
    ∀ (i : TypeInfo) (z : Value) (ps : List (Nat × Value)) (cells : Array Value), P.info? t = some i → i.zero = some z → (∃ d, P.underlying t = some d ∧ ((∃ fs, d = .struct fs) ∨ ∃ l el, d = .array l el)) → 
      (∀ el l, P.underlying t = some (.array l el) → (P.info? el).isSome = true) → Instr.fill place z.cells ps = some cells → P.built t ps = some cells := by
  cases hu : P.underlying t with
  | none => exact ⟨fun _ => none, fun i off n ty h => by simp [place?, hu] at h, fun i z ps cells _ _ hd => by obtain ⟨d, hd, _⟩ := hd; cases hd⟩
  | some d =>
    cases d
    case struct fs =>
      unfold sized at hs
      rw [hu] at hs
      simp only [Option.isSome_iff_exists] at hs
      obtain ⟨places, hp⟩ := hs
      refine ⟨fun i => places[i]?, ?_, ?_⟩
      · intro i off n ty h
        simp only [place?, hu] at h
        split at h
        · rename_i f hf
          split at h
          · rename_i n' hn
            simp only [Option.some.injEq, Prod.mk.injEq] at h
            obtain ⟨rfl, rfl, rfl⟩ := h
            exact mapM_get hp (by rw [Array.getElem?_toList]; exact hf) (by unfold size? at hn; split at hn; · rename_i q hq; cases hn; rw [hq]; rfl
                                                                            · cases hn)
          · cases h
        · cases h
      · intro i z ps cells hi hz _ _ hf
        unfold Program.built
        simp only [hi, hu, hz, hp]
        simpa using hf
    case array l el =>
      refine ⟨fun i => match P.info? el with | some ie => some (i * ie.size, ie.size) | none => none, ?_, ?_⟩
      · intro i off n ty h
        simp only [place?, hu] at h
        split at h
        · rename_i n' hn
          simp only [Option.some.injEq, Prod.mk.injEq] at h
          obtain ⟨rfl, rfl, rfl⟩ := h
          unfold size? at hn
          split at hn
          · rename_i q hq; cases hn; simp only [hq]
          · cases hn
        · cases h
      · intro i z ps cells hi hz _ hel hf
        have := hel el l rfl
        obtain ⟨ie, hie⟩ := Option.isSome_iff_exists.1 this
        unfold Program.built
        simp only [hie] at hf
        simp only [hi, hu, hz, hie]
        exact hf
    all_goals exact ⟨fun _ => none, fun i off n ty h => by simp [place?, hu] at h, fun i z ps cells _ _ hd => by obtain ⟨d, hd, hd'⟩ := hd; cases hd; rcases hd' with ⟨_, h⟩ | ⟨_, _, h⟩ <;> cases h⟩
where mapM_get {P : Program} : ∀ {fs : List Field} {places : List (Nat × Nat)}, fs.mapM (fun f => (P.info? f.type).map fun i => (f.offset, i.size)) = some places → ∀ {i : Nat} {f : Field} {n : Nat}, fs[i]? = some f → (P.info? f.type).map (·.size) = some n → places[i]? = some (f.offset, n)
    | [], places, h, i, f, n, hf, _ => by simp at hf
    | g :: fs, places, h, i, f, n, hf, hn => by
      simp only [List.mapM_cons, Option.bind_eq_bind, Option.pure_def] at h
      cases hi : P.info? g.type with
      | none => simp [hi] at h
      | some q =>
        cases hr : fs.mapM (fun f => (P.info? f.type).map fun i => (f.offset, i.size)) with
        | none => simp [hi, hr] at h
        | some rest =>
          simp [hi, hr] at h
          subst h
          cases i with
          | zero => simp at hf; subst hf; simp [hi] at hn; simp [hn]
          | succ i => simp at hf; simpa using mapM_get hr hf hn

theorem parts_sound {P : Program} {t : TypeId} (hT : RepL x tm a.tmps.toList) {place : Nat → Option (Nat × Nat)} (hpl : ∀ i off n ty, place? P t i = some (off, n, ty) → place i = some (off, n)) :
    ∀ (ps : List (Nat × Operand)) {cs cs' : List AV} {us : Array Value}, parts P t tm ps cs = some cs' → RepL x cs us.toList → ∃ us' : Array Value, Instr.fill place us (ps.map fun p => (p.1, a.eval p.2)) = some us' ∧ RepL x cs' us'.toList
  | [], cs, cs', us, h, hr => by simp only [parts, Option.some.injEq] at h; subst h; exact ⟨us, rfl, hr⟩
  | (i, y) :: ps, cs, cs', us, h, hr => by
    simp only [parts] at h
    split at h
    · rename_i off n ty hp
      split at h
      · rename_i v hv
        split at h
        · rename_i new hnew
          split at h
          · rename_i hc
            simp only [Bool.and_eq_true, beq_eq, Nat.ble_eq] at hc
            have hrv := (evT_rep hT hv).cells' hnew
            have hl1 := hrv.length
            have hl2 : cs.length = us.size := by rw [← Array.length_toList]; exact hr.length
            obtain ⟨us1, h1, h2⟩ := fill_step (rest := ps.map fun p => (p.1, a.eval p.2)) (hpl i off n ty hp) (cs := us) (v := a.eval y) (by rw [← Array.length_toList]; omega) (by omega)
            have hr1 : RepL x (splice cs off new) us1.toList := by
              rw [h1]; unfold splice; rw [hl1]
              exact ((hr.take off).append hrv).append (hr.drop _)
            obtain ⟨us', h3, h4⟩ := parts_sound hT hpl ps h hr1
            exact ⟨us', by rw [List.map_cons, h2]; exact h3, h4⟩
          · cases h
        · cases h
      · cases h
    · cases h

theorem build_sound {P : Program} {t : TypeId} (hT : RepL x tm a.tmps.toList) {ps : Array (Nat × Operand)} {cs cs' : List AV} (hz : zeroOf P t = some cs) (hs : sized P t = true) (hp : parts P t tm ps.toList cs = some cs') :
    ∃ us : Array Value, (Instr.build t (ps.map fun p => (p.1, a.eval p.2))).run P w = .ok (.agg us) w ∧ RepL x cs' us.toList := by
  obtain ⟨i, z, hi, hzz, hr⟩ := zeroOf_rep x hz
  obtain ⟨place, h1, h2⟩ := place_fill hs
  obtain ⟨us, h3, h4⟩ := parts_sound hT h1 ps.toList hp hr
  refine ⟨us, ?_, h4⟩
  refine run_build w t _ us (h2 i z _ us hi hzz ?_ ?_ (by rw [Array.toList_map]; exact h3))
  · unfold sized at hs
    split at hs
    · rename_i fs hu; exact ⟨_, hu, .inl ⟨fs, rfl⟩⟩
    · rename_i l el hu; exact ⟨_, hu, .inr ⟨l, el, rfl⟩⟩
    · cases hs
  · intro el l hu
    unfold sized at hs
    rw [hu] at hs
    exact hs

/-! a slice of parts -/
theorem Row.toCells {M : Mm} : ∀ {l : List AV} {vs : List Value} {r : Row}, RepL x l vs → x.M = M → AV.flats l = some r → r.length = vs.length ∧ ∀ (j : Nat) (d : DV), r[j]? = some d → ∃ v, vs[j]? = some v ∧ RepD M d v
  | _, _, _, .nil, _, h => by simp only [AV.flats, Option.some.injEq] at h; subst h; simp
  | _, _, _, .cons b v l vs hb hl, hM, h => by
    simp only [AV.flats] at h
    split at h
    · rename_i d hd
      split at h
      · rename_i r hr
        cases h
        obtain ⟨h1, h2⟩ := Row.toCells hl hM hr
        refine ⟨by simp [h1], ?_⟩
        intro j d' hj
        cases j with
        | zero =>
          simp at hj; subst hj
          refine ⟨v, rfl, ?_⟩
          cases hb with
          | dv d2 v hh => simp only [AV.flat, Option.some.injEq] at hd; subst hd; rw [← hM]; exact hh
          | sl n ks rows rt v hh _ => simp only [AV.flat, Option.some.injEq] at hd; subst hd; rw [← hM]; exact hh
          | _ => simp [AV.flat] at hd
        | succ j => simp at hj; simpa using h2 j d' hj
      · cases h
    · cases h
theorem AV.row_rep {av : AV} {v : Value} {r : Row} (h : Rep x av v) (hr : av.row = some r) : r.length = v.cells.size ∧ ∀ (j : Nat) (d : DV), r[j]? = some d → ∃ u, v.cells.toList[j]? = some u ∧ RepD x.M d u := by
  cases h with
  | agg cs vs hh =>
    obtain ⟨h1, h2⟩ := Row.toCells hh rfl hr
    exact ⟨by simpa [Value.cells] using h1, h2⟩
  | dv d v hh =>
    simp only [AV.row, AV.flat, Option.some.injEq] at hr; subst hr
    have h5 : v.oneCell' = true := RepD.one hh
    cases v <;> first
      | (simp [Value.oneCell'] at h5; done)
      | (refine ⟨rfl, fun j d' hj => ?_⟩
         cases j with
         | zero => simp at hj; subst hj; exact ⟨_, rfl, hh⟩
         | succ j => simp at hj)
  | sl n ks rows rt v hh _ =>
    simp only [AV.row, AV.flat, Option.some.injEq] at hr; subst hr
    have h5 : v.oneCell' = true := RepD.one hh
    cases v <;> first
      | (simp [Value.oneCell'] at h5; done)
      | (refine ⟨rfl, fun j d' hj => ?_⟩
         cases j with
         | zero => simp at hj; subst hj; exact ⟨_, rfl, hh⟩
         | succ j => simp at hj)
  | tup => simp [AV.row, AV.flat] at hr
  | pl => simp [AV.row, AV.flat] at hr
  | pv => simp [AV.row, AV.flat] at hr
  | fn => simp [AV.row, AV.flat] at hr
  | ifc => simp [AV.row, AV.flat] at hr
  | ms => simp [AV.row, AV.flat] at hr
  | pa => simp [AV.row, AV.flat] at hr
  | junk => simp [AV.row, AV.flat] at hr

/-- Rows that values stand for, cell by cell. -/
def RowsV (M : Mm) (ks : List Kd) (rows : Rows) (vs : List Value) : Prop :=
  vs.length = rows.length * ks.length ∧ ∀ (i : Nat) (r : Row), rows[i]? = some r → Row.ofKds ks r = true ∧ ∀ (j : Nat) (d : DV), r[j]? = some d → ∃ u, vs[i * ks.length + j]? = some u ∧ RepD M d u

theorem rows_sound {P : Program} {el : TypeId} {ks : List Kd} (hT : RepL x tm a.tmps.toList) :
    ∀ (ps : List (Nat × Operand)) {rows rows' : Rows} {us : Array Value}, rowsOf P el ks tm ps rows = some rows' → RowsV x.M ks rows us.toList →
      ∃ us' : Array Value, Instr.fill (fun i => some (i * ks.length, ks.length)) us (ps.map fun p => (p.1, a.eval p.2)) = some us' ∧ RowsV x.M ks rows' us'.toList ∧ rows'.length = rows.length
  | [], rows, rows', us, h, hr => by simp only [rowsOf, Option.some.injEq] at h; subst h; exact ⟨us, rfl, hr, rfl⟩
  | (i, y) :: ps, rows, rows', us, h, hr => by
    simp only [rowsOf] at h
    split at h
    · rename_i v hv
      split at h
      · rename_i r hrow
        split at h
        · rename_i hc
          simp only [Bool.and_eq_true] at hc
          obtain ⟨hof, hlt⟩ := hc
          have hlt : i < rows.length := by simpa using hlt
          obtain ⟨hl, hcell⟩ := AV.row_rep (evT_rep hT hv) hrow
          have hrl := Row.ofKds_length hof
          obtain ⟨hvl, hvr⟩ := hr
          have hus : us.size = rows.length * ks.length := by rw [← Array.length_toList]; exact hvl
          have hmul : (i + 1) * ks.length ≤ rows.length * ks.length := Nat.mul_le_mul_right _ hlt
          rw [Nat.add_mul, Nat.one_mul] at hmul
          obtain ⟨us1, h1, h2⟩ := fill_step (place := fun i => some (i * ks.length, ks.length)) (rest := ps.map fun p => (p.1, a.eval p.2)) (i := i) (off := i * ks.length) (n := ks.length) rfl (cs := us) (v := a.eval y) (by omega) (by omega)
          have hcl : (a.eval y).cells.toList.length = ks.length := by rw [Array.length_toList]; omega
          have hr1 : RowsV x.M ks (rows.set i r) us1.toList := by
            rw [h1]
            refine ⟨by simp only [List.length_append, List.length_take, List.length_drop, List.length_set]; omega, ?_⟩
            intro q r' hq
            by_cases hqi : q = i
            · subst hqi
              rw [List.getElem?_set_self (by omega)] at hq
              obtain rfl := Option.some.inj hq
              refine ⟨hof, fun j d hj => ?_⟩
              obtain ⟨u, hu, hd⟩ := hcell j d hj
              refine ⟨u, ?_, hd⟩
              have hjl : j < (a.eval y).cells.toList.length := (List.getElem?_eq_some_iff.1 hu).1
              rw [List.append_assoc, List.getElem?_append_right (by simp only [List.length_take]; omega)]
              have e0 : q * ks.length + j - (us.toList.take (q * ks.length)).length = j := by simp only [List.length_take]; omega
              rw [e0, List.getElem?_append_left hjl]; exact hu
            · rw [List.getElem?_set_ne (by omega)] at hq
              obtain ⟨h5, h6⟩ := hvr q r' hq
              refine ⟨h5, fun j d hj => ?_⟩
              obtain ⟨u, hu, hd⟩ := h6 j d hj
              refine ⟨u, ?_, hd⟩
              have hjl : j < ks.length := by rw [← Row.ofKds_length h5]; exact (List.getElem?_eq_some_iff.1 hj).1
              have hul : q * ks.length + j < us.toList.length := (List.getElem?_eq_some_iff.1 hu).1
              rw [List.append_assoc]
              by_cases hlt2 : q < i
              · have : (q + 1) * ks.length ≤ i * ks.length := Nat.mul_le_mul_right _ hlt2
                rw [Nat.add_mul, Nat.one_mul] at this
                rw [List.getElem?_append_left (by simp only [List.length_take]; omega), List.getElem?_take, if_pos (by omega)]; exact hu
              · have : (i + 1) * ks.length ≤ q * ks.length := Nat.mul_le_mul_right _ (by omega)
                rw [Nat.add_mul, Nat.one_mul] at this
                rw [List.getElem?_append_right (by simp only [List.length_take]; omega), List.getElem?_append_right (by simp only [List.length_take]; omega), List.getElem?_drop]
                have e0 : i * ks.length + (a.eval y).cells.toList.length + (q * ks.length + j - (us.toList.take (i * ks.length)).length - (a.eval y).cells.toList.length) = q * ks.length + j := by
                  simp only [List.length_take]; omega
                rw [e0]; exact hu
          obtain ⟨us', h3, h4, h5⟩ := rows_sound hT ps h hr1
          exact ⟨us', by rw [List.map_cons, h2]; exact h3, h4, by rw [h5, List.length_set]⟩
        · cases h
      · cases h
    · cases h

/-- Rows of values that lie in memory. -/
theorem RowsV.at {M M' : Mm} (hs : Sub M M') {ks : List Kd} : ∀ {rows : Rows} {vs : List Value}, RowsV M ks rows vs → ∀ (b o : Nat), (∀ (j : Nat) (u : Value), vs[j]? = some u → M' b (o + j) = some u) → RowsAt M' b o ks rows
  | [], vs, h, b, o, hm => .nil b o ks
  | r :: rows, vs, ⟨h1, h2⟩, b, o, hm => by
    obtain ⟨h3, h4⟩ := h2 0 r rfl
    refine .cons b o ks r rows h3 (RowsV.cells hs (vs := vs) (fun j d hj => by simpa using h4 j d hj) b o hm) ?_
    refine RowsV.at hs (vs := vs.drop ks.length) ⟨by simp only [List.length_drop, h1, List.length_cons, Nat.add_mul, Nat.one_mul]; omega, ?_⟩ b (o + ks.length) ?_
    · intro i r' hi
      obtain ⟨h5, h6⟩ := h2 (i + 1) r' (by simpa using hi)
      refine ⟨h5, fun j d hj => ?_⟩
      obtain ⟨u, hu, hd⟩ := h6 j d hj
      refine ⟨u, ?_, hd⟩
      rw [List.getElem?_drop, ← hu, Nat.add_mul, Nat.one_mul]; congr 1; omega
    · intro j u hj
      rw [List.getElem?_drop] at hj
      have := hm _ u hj
      rw [← this]; congr 1; omega
where RowsV.cells {M M' : Mm} (hs : Sub M M') : ∀ {r : Row} {vs : List Value}, (∀ (j : Nat) (d : DV), r[j]? = some d → ∃ u, vs[j]? = some u ∧ RepD M d u) → ∀ (b o : Nat), (∀ (j : Nat) (u : Value), vs[j]? = some u → M' b (o + j) = some u) → CellsAt M' b o r
    | [], vs, h, b, o, hm => .nil b o
    | d :: r, vs, h, b, o, hm => by
      obtain ⟨u, hu, hd⟩ := h 0 d rfl
      refine .cons b o d u r (by simpa using hm 0 u hu) (hd.mono hs) (RowsV.cells hs (vs := vs.drop 1) (fun j d' hj => ?_) b (o + 1) fun j v hj => ?_)
      · obtain ⟨v, hv, hd'⟩ := h (j + 1) d' (by simpa using hj)
        exact ⟨v, by rw [List.getElem?_drop, ← hv]; congr 1; omega, hd'⟩
      · rw [List.getElem?_drop] at hj
        have := hm _ v hj
        rw [← this]; congr 1; omega
end Go.Den
