import Derived.Test.YtlpnccpagikioaaDoorDen10
import Derived.Laws.Slices
import Derived.Laws.BytesString
set_option linter.unusedVariables false
set_option linter.unusedSimpArgs false
set_option linter.unusedSectionVars false
/- Slices; slices of parts; texts of bytes. -/
namespace Go.Den
variable {e : Env} {x : X} {w : World} {m : Mem} {tm : List AV} {a : Act} {next : Act → World → Prop} {Q : Exit → Act → World → Prop}

theorem bound_rep {ov : Option AV} {d l : Int} {vv : Option Value} (h : bound ov d = some l) (hr : ∀ v, ov = some v → ∃ u, vv = some u ∧ Rep x v u) (hn : ov = none → vv = none) :
    (vv = none ∧ ov = none ∧ l = d) ∨ ∃ k, vv = some (.int k l) ∧ ov.isSome = true := by
  unfold bound at h
  split at h
  · left; exact ⟨hn rfl, rfl, (Option.some.inj h).symm⟩
  · rename_i k n
    right
    obtain ⟨u, h1, h2⟩ := hr _ rfl
    obtain rfl := Rep.val h2
    cases h
    exact ⟨k, h1, rfl⟩
  · cases h

theorem run_bounds {P : Program} (isSlice : Bool) (len cap : Nat) (lo hi : Option Value) (l h : Int) (hlo : (lo = none ∧ l = 0) ∨ ∃ k, lo = some (.int k l)) (hhi : (hi = none ∧ h = len) ∨ ∃ k, hi = some (.int k h))
    (h0 : 0 ≤ l) (h1 : l ≤ h) (h2 : h ≤ cap) : (Instr.sliceBounds isSlice len cap lo hi none).run P w = .ok (l.toNat, h.toNat, cap) w := by
  have e1 : (h.toNat : Int) = h := by omega
  rcases hlo with ⟨rfl, rfl⟩ | ⟨k, rfl⟩ <;> rcases hhi with ⟨rfl, rfl⟩ | ⟨j, rfl⟩ <;>
    simp [Instr.sliceBounds, Instr.sliceBound, asIntOf, *] <;> omega

theorem evO_rep {P : Program} (hT : RepL x tm a.tmps.toList) {o : Option Operand} {ov : Option AV} (h : evO P tm o = some ov) :
    (∀ v, ov = some v → ∃ u, o.map a.eval = some u ∧ Rep x v u) ∧ (ov = none → o.map a.eval = none) := by
  cases o with
  | none => simp only [evO, Option.some.injEq] at h; subst h; simp
  | some y =>
    simp only [evO] at h
    split at h
    · rename_i v hv
      cases h
      exact ⟨fun v' hv' => by cases hv'; exact ⟨_, rfl, evT_rep hT hv⟩, fun hh => by cases hh⟩
    · cases h

/-- A slice of a slice. -/
theorem sliced_rep {n : Bool} {ks : List Kd} {rows : Rows} {r : Right} {u : Value} (hr : Rep x (.sl n ks rows r) u) :
    ∃ ad c, u = .slice ad rows.length c ∧ rows.length ≤ c ∧ (r = .ex → c = rows.length) ∧ ∀ (l h q : Nat) (rt : Right), l ≤ h → h ≤ rows.length → h ≤ q → q ≤ c → (rt = .ex → q = h) → (rt = .no ∨ rt = .ex) →
      Rep x (.sl n ks ((rows.take h).drop l) rt) (sliced ad l h q ks.length) := by
  cases hr with
  | sl _ _ _ _ _ hd hrt =>
  have hex : ∀ ad c, u = .slice ad rows.length c → r = .ex → c = rows.length := by
    intro ad c hu hr
    subst hr
    obtain ⟨a', n', h1⟩ := hrt
    rw [hu] at h1
    injection h1 with _ h2 h3
    omega
  have hright : ∀ (rt : Right) (l h q : Nat) (ad : Option Addr), l ≤ h → (rt = .ex → q = h) → (rt = .no ∨ rt = .ex) → ∀ d, RtOk x rt d (sliced ad l h q ks.length) ks.length := by
    intro rt l h q ad hlh h1 h2 d
    cases rt with
    | no => trivial
    | ex => obtain rfl := h1 rfl; exact ⟨_, _, rfl⟩
    | tok k => simp at h2
    | old => simp at h2
  rcases hd.rows with ⟨hn, rfl, rfl⟩ | ⟨ad, c, hn, rfl, hc, hsp, hro⟩
  · refine ⟨none, 0, rfl, Nat.le_refl _, fun _ => rfl, fun l h q rt hlh hh hhq hqc h1 h2 => ?_⟩
    simp only [List.length_nil] at hh
    obtain rfl : h = 0 := by omega
    obtain rfl : l = 0 := by omega
    obtain rfl : q = 0 := by omega
    subst hn
    exact .sl _ _ _ _ _ (by simpa [sliced] using RepD.nil ks) (hright rt 0 0 0 none (Nat.le_refl _) h1 h2 _)
  · refine ⟨some ad, c, rfl, hc, hex _ _ rfl, fun l h q rt hlh hh hhq hqc h1 h2 => ?_⟩
    subst hn
    refine .sl _ _ _ _ _ ?_ (hright rt l h q _ hlh h1 h2 _)
    have hlen : ((rows.take h).drop l).length = h - l := by rw [List.length_drop, List.length_take]; omega
    unfold sliced
    by_cases hql : q = l
    · rw [if_pos hql]
      have hnil : (rows.take h).drop l = [] := List.eq_nil_of_length_eq_zero (by omega)
      rw [hnil, show h - l = ([] : Rows).length by simp; omega]
      exact .sl ks [] ad _ (by simp) (fun hh => absurd rfl hh) (.nil _ _ _)
    · rw [if_neg hql, ← hlen]
      simp only [Option.map_some]
      by_cases hrows : rows = []
      · subst hrows
        simp only [List.take_nil, List.drop_nil, List.length_nil]
        exact .sl ks [] _ _ (by simp) (fun hh => absurd rfl hh) (.nil _ _ _)
      · have hs := hsp hrows
        rw [add_addr hs]
        refine .sl ks _ ⟨ad.block, ad.off + l * ks.length, none⟩ _ (by rw [hlen]; omega) (fun _ => rfl) ?_
        exact (hro.take h).drop l (by rw [List.length_take]; omega)

theorem slice_sound {R : Type} {t el : TypeId} {n : Bool} {ks : List Kd} {rows : Rows} {r : Right} {u : Value} {lo hi mx : Option AV} {lov hiv mxv : Option Value} {k : Eff → Option R} {res : R}
    {P : Program} (ht : P.underlying t = some (.slice el)) (hsz : size? P el = some ks.length)
    (hlo : (∀ v, lo = some v → ∃ u, lov = some u ∧ Rep x v u) ∧ (lo = none → lov = none)) (hhi : (∀ v, hi = some v → ∃ u, hiv = some u ∧ Rep x v u) ∧ (hi = none → hiv = none)) (hmx : (∀ v, mx = some v → ∃ u, mxv = some u ∧ Rep x v u) ∧ (mx = none → mxv = none))
    (hr : Rep x (.sl n ks rows r) u) (h : sliceE (.sl n ks rows r) lo hi mx k = some res) :
    ∃ v z, k (.pure v) = some res ∧ Rep x v z ∧ (Instr.sliceAt t u lov hiv mxv).run P w = .ok z w := by
  have hel : P.elem t = el := by simp [Program.elem, ht]
  have ht' : P.underlying t = some (.slice (P.elem t)) := by rw [hel]; exact ht
  obtain ⟨ad, c, rfl, hc, hex, hrep⟩ := sliced_rep hr
  rw [run_sliceAt_slice w t _ lov hiv mxv ht']
  unfold sliceE at h
  simp only at h
  split at h
  · -- no third index
    rename_i hm
    rw [hmx.2 rfl]
    split at h
    · rename_i l hh hl hh'
      split at h
      · rename_i h0
        split at h
        · rename_i h1
          split at h
          · rename_i h2
            refine ⟨_, _, h, hrep l.toNat hh.toNat c _ (by omega) (by omega) (by omega) (Nat.le_refl _) ?_ ?_, ?_⟩
            · intro he
              split at he
              · have := hex rfl
                simp only [bound, Option.some.injEq] at hh'
                omega
              · cases he
            · split
              · exact .inr rfl
              · exact .inl rfl
            · have hb := run_bounds (P := P) (w := w) true rows.length c lov hiv l hh
                (by rcases bound_rep hl hlo.1 hlo.2 with ⟨q1, _, q2⟩ | ⟨k, q1, _⟩; exact .inl ⟨q1, q2⟩; exact .inr ⟨k, q1⟩)
                (by rcases bound_rep hh' hhi.1 hhi.2 with ⟨q1, _, q2⟩ | ⟨k, q1, _⟩; exact .inl ⟨q1, q2⟩; exact .inr ⟨k, q1⟩) h0 h1 (by omega)
              rw [run_slice_any w t ad _ c ht' lov hiv none, hb]
              simp only [Result.andThen_ok]
              rw [hel, run_size hsz]
              simp
          · cases h
        · cases h
      · cases h
    · cases h
  · rename_i j q
    obtain ⟨uq, huq, hruq⟩ := hmx.1 _ rfl
    obtain rfl := Rep.val hruq
    rw [huq]
    split at h
    · rename_i l j2 hh hl
      obtain ⟨uh, huh, hruh⟩ := hhi.1 _ rfl
      obtain rfl := Rep.val hruh
      rw [huh]
      split at h
      · rename_i h0
        split at h
        · rename_i h1
          split at h
          · rename_i h2
            split at h
            · rename_i h3
              refine ⟨_, _, h, hrep l.toNat hh.toNat q.toNat _ (by omega) (by omega) (by omega) (by omega) ?_ ?_, ?_⟩
              · intro he
                split at he
                · omega
                · cases he
              · split
                · exact .inr rfl
                · exact .inl rfl
              · have hb : (Instr.sliceBounds true rows.length c lov (some (.int j2 hh)) (some (.int j q))).run P w = .ok (l.toNat, hh.toNat, q.toNat) w := by
                  have e1 : (hh.toNat : Int) = hh := by omega
                  have e2 : (q.toNat : Int) = q := by omega
                  have e3 : q ≤ (c : Int) := by omega
                  have e4 : 0 ≤ q := by omega
                  have e5 : 0 ≤ hh := by omega
                  rcases bound_rep hl hlo.1 hlo.2 with ⟨q1, _, q2⟩ | ⟨k, q1, _⟩
                  · subst q2; rw [q1]
                    simp [Instr.sliceBounds, Instr.sliceBound, asIntOf, *]
                  · rw [q1]
                    simp [Instr.sliceBounds, Instr.sliceBound, asIntOf, *]
                rw [run_slice_any w t ad _ c ht' _ _ _, hb]
                simp only [Result.andThen_ok]
                rw [hel, run_size hsz]
                simp
            · cases h
          · cases h
        · cases h
      · cases h
    · cases h
  · cases h

theorem sliceStr_sound {R : Type} {t : TypeId} {s : ByteArray} {lo hi mx : Option AV} {lov hiv mxv : Option Value} {k : Eff → Option R} {res : R}
    {P : Program} (ht : P.underlying t = some .string)
    (hlo : (∀ v, lo = some v → ∃ u, lov = some u ∧ Rep x v u) ∧ (lo = none → lov = none)) (hhi : (∀ v, hi = some v → ∃ u, hiv = some u ∧ Rep x v u) ∧ (hi = none → hiv = none)) (hmx : (∀ v, mx = some v → ∃ u, mxv = some u ∧ Rep x v u) ∧ (mx = none → mxv = none))
    (h : sliceE (.S s) lo hi mx k = some res) :
    ∃ v z, k (.pure v) = some res ∧ Rep x v z ∧ (Instr.sliceAt t (.string s) lov hiv mxv).run P w = .ok z w := by
  rw [run_sliceAt_string w t _ lov hiv mxv ht]
  unfold sliceE at h
  simp only at h
  split at h
  · rename_i l hh hl hh'
    rw [hmx.2 rfl]
    split at h
    · rename_i h0
      split at h
      · rename_i h1
        split at h
        · rename_i h2
          refine ⟨_, .string (s.extract l.toNat hh.toNat), h, rep_val x rfl, ?_⟩
          have hb := run_bounds (P := P) (w := w) false s.size s.size lov hiv l hh
            (by rcases bound_rep hl hlo.1 hlo.2 with ⟨q1, _, q2⟩ | ⟨k, q1, _⟩; exact .inl ⟨q1, q2⟩; exact .inr ⟨k, q1⟩)
            (by rcases bound_rep hh' hhi.1 hhi.2 with ⟨q1, _, q2⟩ | ⟨k, q1, _⟩; exact .inl ⟨q1, q2⟩; exact .inr ⟨k, q1⟩) h0 h1 h2
          simp [Instr.slice, run_underlying ht, hb]
        · cases h
      · cases h
    · cases h
  · cases h

/-! texts of bytes -/
theorem push_all (f : Int → UInt8) : ∀ (ns : List Int) (s : ByteArray), ns.foldl (fun r n => r.push (f n)) s = ⟨s.data ++ (ns.map f).toArray⟩
  | [], s => by simp
  | n :: ns, s => by
    rw [List.foldl_cons, push_all f ns]
    congr 1
    apply Array.ext'
    simp [ByteArray.push]

theorem bytes_sound (hI : Inv e x w m) {n : Bool} {rows : Rows} {r : Right} {u : Value} (hr : Rep x (.sl n [.i .u8] rows r) u) : (Conv.bytesToString u).run e.P w = .ok (.string (bytesOf rows)) w := by
  cases hr with
  | sl _ _ _ _ _ hd _ =>
  rcases hd.rows with ⟨_, rfl, rfl⟩ | ⟨ad, c, _, rfl, hc, hsp, hro⟩
  · rfl
  · have hcell : ∀ i, i < rows.length → x.M ad.block (ad.off + i) = some (.int .u8 (Row.I (rows.getD i []) 0)) := by
      intro i hi
      obtain ⟨h1, h2⟩ := hro.get hi
      obtain ⟨v, hv, hr⟩ := Rep.cell h1 h2 (j := 0) (k := .i .u8) rfl
      simp only [List.length_cons, List.length_nil, Nat.zero_add, Nat.mul_one, Nat.add_zero] at hv
      obtain rfl := Rep.val hr
      exact hv
    have hload := run_loadCells_list (P := e.P) w ad ((rows.map fun r => Row.I r 0).map (Value.int .u8)) (by
      intro j v hj
      rw [List.map_map, List.getElem?_map] at hj
      obtain ⟨r0, h1, rfl⟩ := Option.map_eq_some_iff.1 hj
      have hlt : j < rows.length := (List.getElem?_eq_some_iff.1 h1).1
      have hne : rows ≠ [] := fun hh => by subst hh; simp at hlt
      rw [add_addr (hsp hne)]
      have := hI.sub _ _ _ (hcell j hlt)
      rw [this]
      simp [List.getD, h1])
    simp only [List.length_map] at hload
    rw [run_bytesToString w ad rows.length c (rows.map fun r => Row.I r 0) hload, push_all fun n => UInt8.ofNat n.toNat]
    congr 2
    unfold bytesOf
    congr 1
    simp [List.map_map, Function.comp_def]

/-! a slice of parts -/
/-- Rows of values, one behind the other. -/
theorem RowsV.arr {M : Mm} {ks : List Kd} : ∀ {rows : Rows} {vs : List Value}, RowsV M ks rows vs → ArrV M ks rows vs
  | [], vs, ⟨h1, _⟩ => by
    have : vs = [] := List.eq_nil_of_length_eq_zero (by simpa using h1)
    subst this; exact .nil _
  | r :: rows, vs, ⟨h1, h2⟩ => by
    obtain ⟨h3, h4⟩ := h2 0 r rfl
    have hrl := Row.ofKds_length h3
    simp only [List.length_cons, Nat.add_mul, Nat.one_mul] at h1
    have hsplit : vs = vs.take ks.length ++ vs.drop ks.length := (List.take_append_drop _ _).symm
    have tail : ArrV M ks rows (vs.drop ks.length) := by
      refine RowsV.arr ⟨by rw [List.length_drop]; omega, ?_⟩
      intro i r' hi
      obtain ⟨h5, h6⟩ := h2 (i + 1) r' (by simpa using hi)
      refine ⟨h5, fun j d hj => ?_⟩
      obtain ⟨u, hu, hd⟩ := h6 j d hj
      refine ⟨u, ?_, hd⟩
      rw [List.getElem?_drop, ← hu, Nat.add_mul, Nat.one_mul]; congr 1; omega
    rw [hsplit]
    refine .cons r _ rows _ h3 (RowsV.cellsV (by rw [List.length_take]; omega) fun j d hj => ?_) tail
    obtain ⟨u, hu, hd⟩ := h4 j d hj
    have hjl : j < r.length := (List.getElem?_eq_some_iff.1 hj).1
    exact ⟨u, by rw [List.getElem?_take, if_pos (by omega)]; simpa using hu, hd⟩
where RowsV.cellsV {M : Mm} : ∀ {r : Row} {vs : List Value}, r.length = vs.length → (∀ (j : Nat) (d : DV), r[j]? = some d → ∃ u, vs[j]? = some u ∧ RepD M d u) → CellsV M r vs
    | [], [], _, _ => .nil
    | [], _ :: _, h, _ => by simp at h
    | _ :: _, [], h, _ => by simp at h
    | d :: r, v :: vs, h, hc => by
      obtain ⟨u, hu, hd⟩ := hc 0 d rfl
      simp at hu; subst hu
      exact .cons d v r vs hd (RowsV.cellsV (by simpa using h) fun j d' hj => by simpa using hc (j + 1) d' (by simpa using hj))

/-- Slicing an array that can be written. -/
theorem sliceMs_sound {R : Type} {t el : TypeId} {j off n c : Nat} {ks : List Kd} {u : Value} {lo hi mx : Option AV} {lov hiv mxv : Option Value} {k : Eff → Option R} {res : R}
    {P : Program} (ht : P.underlying t = some (.slice el)) (hsz : size? P el = some ks.length)
    (hlo : (∀ v, lo = some v → ∃ u, lov = some u ∧ Rep x v u) ∧ (lo = none → lov = none)) (hhi : (∀ v, hi = some v → ∃ u, hiv = some u ∧ Rep x v u) ∧ (hi = none → hiv = none)) (hmx : (∀ v, mx = some v → ∃ u, mxv = some u ∧ Rep x v u) ∧ (mx = none → mxv = none))
    (hr : Rep x (.ms j ks off n c) u) (h : sliceE (.ms j ks off n c) lo hi mx k = some res) :
    ∃ v z, k (.pure v) = some res ∧ Rep x v z ∧ (Instr.sliceAt t u lov hiv mxv).run P w = .ok z w := by
  have hel : P.elem t = el := by simp [Program.elem, ht]
  have ht' : P.underlying t = some (.slice (P.elem t)) := by rw [hel]; exact ht
  cases hr with | ms _ _ _ _ _ b o c' hb g1 g2 g3 => ?_
  rw [run_sliceAt_slice w t _ lov hiv mxv ht']
  unfold sliceE at h
  simp only at h
  split at h
  · rename_i l hh hl hh'
    rw [hmx.2 rfl]
    split at h
    · rename_i h0
      split at h
      · rename_i h1
        split at h
        · rename_i h2
          have hb' := run_bounds (P := P) (w := w) true n c' lov hiv l hh
            (by rcases bound_rep hl hlo.1 hlo.2 with ⟨q1, _, q2⟩ | ⟨k, q1, _⟩; exact .inl ⟨q1, q2⟩; exact .inr ⟨k, q1⟩)
            (by rcases bound_rep hh' hhi.1 hhi.2 with ⟨q1, _, q2⟩ | ⟨k, q1, _⟩; exact .inl ⟨q1, q2⟩; exact .inr ⟨k, q1⟩) h0 h1 (by omega)
          refine ⟨_, _, h, ?_, by rw [run_slice_any w t (some ⟨b, o, none⟩) _ c' ht' lov hiv none, hb']; simp only [Result.andThen_ok]; rw [hel, run_size hsz]; rfl⟩
          unfold sliced
          by_cases hq : c' = l.toNat
          · rw [if_pos hq]
            exact .ms j ks _ _ _ b o _ hb (by omega) (fun h => by omega) ⟨by omega, by subst hq; simp only [Nat.sub_self, Nat.zero_mul]; omega, by omega⟩
          · rw [if_neg hq]
            simp only [Option.map_some]
            rw [add_addr rfl]
            refine .ms j ks _ _ _ b _ _ hb (by omega) (fun _ => ?_) ⟨by omega, by
              have e1 : (c' - l.toNat) * ks.length + l.toNat * ks.length = c' * ks.length := by rw [← Nat.add_mul]; congr 1; omega
              simp only; omega, by omega⟩
            simp only
            rw [g2 (by omega), Nat.add_mul]
        · cases h
      · cases h
    · cases h
  · cases h

theorem buildSlice_sound (hI : Inv e x w m) (hT : RepL x tm a.tmps.toList) {t el : TypeId} {n : Nat} {ps : Array (Nat × Operand)} {ks : List Kd} {z : List AV} {zr : Row} {rows : Rows} {se : Nat}
    (ht : e.P.underlying t = some (.slice el)) (hz : zeroOf e.P el = some z) (hzr : AV.flats z = some zr) (hse : size? e.P el = some se) (hrows : rowsOf e.P el ks tm ps.toList (List.replicate n zr) = some rows)
    (hks : se = ks.length) (hof : Row.ofKds ks zr = true) (hsz : n * se ≤ 16777216) :
    (∃ u w' x', (Instr.buildSlice t n (ps.map fun p => (p.1, a.eval p.2))).run e.P w = .ok u w' ∧ Rep x' (.sl false ks rows .ex) u ∧ Inv e x' w' m ∧ Ext x x' [] []) ∧
    ∀ d, d < 1000 → n ≤ 16777216 → ∃ u w' x', (Instr.buildSlice t n (ps.map fun p => (p.1, a.eval p.2))).run e.P w = .ok u w' ∧ Rep x' (.ms d ks 0 n n) u ∧ Inv e x' w' (writes (scrubM [d] [] (dropAll m [d])) [(d, [.arr ks rows])]) ∧ Ext x x' [d] [] := by
  subst hks
  obtain ⟨i, zv, hi, hzz, hrz⟩ := zeroOf_rep x hz
  obtain ⟨hzl, hzc⟩ := Row.toCells hrz rfl hzr
  have hzk := Row.ofKds_length hof
  have hzl' : zr.length = zv.cells.size := by rw [← Array.length_toList]; exact hzl
  have hzsize : zv.cells.size = ks.length := by omega
  have hsize : (sizeOf el).run e.P w = .ok ks.length w := run_size hse w
  have hbig : ¬ (n * ks.length > 2 ^ 24) := by omega
  -- the cells at first
  let init : Array Value := if n * ks.length = 0 then #[] else (Array.range (n * ks.length)).map (zv.cells[· % zv.cells.size]!)
  have hinit : RowsV x.M ks (List.replicate n zr) init.toList := by
    by_cases h0 : n * ks.length = 0
    · refine ⟨by simp [init, h0], ?_⟩
      intro q r hq
      rw [List.getElem?_replicate] at hq
      split at hq
      · rename_i hlt
        cases hq
        refine ⟨hof, fun j d hj => ?_⟩
        have hjl : j < zr.length := (List.getElem?_eq_some_iff.1 hj).1
        have : 0 < n * ks.length := Nat.mul_pos (by omega) (by omega)
        omega
      · cases hq
    · refine ⟨by simp [init, h0], ?_⟩
      intro q r hq
      rw [List.getElem?_replicate] at hq
      split at hq
      · rename_i hlt
        cases hq
        refine ⟨hof, fun j d hj => ?_⟩
        have hjl : j < ks.length := by rw [← hzk]; exact (List.getElem?_eq_some_iff.1 hj).1
        obtain ⟨u, hu, hd⟩ := hzc j d hj
        refine ⟨u, ?_, hd⟩
        have hlt2 : q * ks.length + j < n * ks.length := by
          have := Nat.mul_le_mul_right ks.length (show q + 1 ≤ n from hlt)
          rw [Nat.add_mul, Nat.one_mul] at this
          omega
        have hmod : (q * ks.length + j) % zv.cells.size = j := by
          rw [hzsize, Nat.mul_comm, Nat.mul_add_mod]; exact Nat.mod_eq_of_lt hjl
        simp only [init, if_neg h0]
        rw [Array.getElem?_toList, Array.getElem?_map, Array.getElem?_range, if_pos hlt2]
        simp only [Option.map_some, hmod]
        rw [Array.getElem?_toList] at hu
        rw [Array.getElem!_eq_getD, Array.getD_eq_getD_getElem?, hu]; rfl
      · cases hq
  obtain ⟨us, h1, h2, h3⟩ := rows_sound hT ps.toList hrows hinit
  have hun : us.size = rows.length * ks.length := by rw [← Array.length_toList]; exact h2.1
  have hn : rows.length = n := by rw [h3, List.length_replicate]
  have hrun : (Instr.buildSlice t n (ps.map fun p => (p.1, a.eval p.2))).run e.P w = .ok (.slice (some ⟨w.heap.size, 0, none⟩) n n) (w.alloc (.cells us el)) := by
    by_cases h0 : n * ks.length = 0
    · simp only [init, if_pos h0] at h1
      have h1' : Instr.fill (fun i => some (i * ks.length, ks.length)) ((Array.range (n * ks.length)).map ((#[] : Array Value)[· % (#[] : Array Value).size]!)) (ps.map fun p => (p.1, a.eval p.2)).toList = some us := by
        have e0 : ∀ f : Nat → Value, (Array.range 0).map f = #[] := fun f => by simp
        rw [h0, e0]; simpa [Array.toList_map] using h1
      simp [Instr.buildSlice, run_underlying ht, hsize, h0, newRow] at h1' ⊢
      simp [h1']
      try rfl
    · simp only [init, if_neg h0] at h1
      have h1' : Instr.fill (fun i => some (i * ks.length, ks.length)) ((Array.range (n * ks.length)).map (zv.cells[· % zv.cells.size]!)) (ps.map fun p => (p.1, a.eval p.2)).toList = some us := by
        simpa [Array.toList_map] using h1
      have hzero : (zeroValue el).run e.P w = .ok zv w := by simp [zeroValue, typeInfo, hi, hzz]
      simp [Instr.buildSlice, run_underlying ht, hsize, hbig, h0, newRow, hzero] at h1' ⊢
      simp [h1']
      try rfl
  refine ⟨⟨_, _, x.withRow w.heap.size us.toList, hrun, ?_, hI.withRow us el us.toList (fun j v hj => by rw [Array.getElem?_toList] at hj; exact hj), Ext.withRow hI _ _ _⟩, fun d hd hn16 => ?_⟩
  · refine .sl _ _ _ _ _ ?_ ⟨_, _, rfl⟩
    rw [← hn]
    refine .sl ks rows ⟨w.heap.size, 0, none⟩ _ (Nat.le_refl _) (fun _ => rfl) (h2.at (Sub.withRow hI _) _ _ fun j u hj => ?_)
    simp only [X.withRow, if_true, Nat.zero_add]; exact hj
  · refine ⟨_, _, x.withBox d w.heap.size us.size, hrun, .ms d ks 0 n n w.heap.size 0 n (by simp [X.withBox]) (Nat.le_refl _) (fun _ => by simp) ⟨Nat.le_refl _, by simp only [X.withBox, if_true]; rw [hun, hn]; omega, by unfold maxLen; omega⟩, hI.withBox d hd us el _ (.inr ⟨ks, rows, rfl, ?_⟩), Ext.withBox x d _ _⟩
    exact h2.arr
end Go.Den
