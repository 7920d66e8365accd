import Derived.Test.YtlpnccpagikioaaDoorDen11
set_option linter.unusedVariables false
set_option linter.unusedSimpArgs false
set_option linter.unusedSectionVars false
/- Every operation is sound. -/
namespace Go.Den
variable {e : Env} {x : X} {w : World} {m : Mem} {tm : List AV} {a : Act} {next : Act → World → Prop} {Q : Exit → Act → World → Prop} {R : Type} {res : R} {k kp : Eff → Option R}

/-- What goes on behind an operation. -/
def Goes (e : Env) (x : X) (m : Mem) (a : Act) (o : Oper) (next : Act → World → Prop) (k : Eff → Option R) (res : R) : Prop :=
  ∀ eff x' w' v, k eff = some res → After e x x' w' m v eff → next (a.put o.dst v) w'

variable {o : Oper}
theorem pure_op (hI : Inv e x w m) (hk : Goes e x m a o next k res) {r : AV} {v : Value} (h : k (.pure r) = some res) (hr : Rep x r v) (hrun : (execOp a.eval o).run e.P w = .ok (.value v) w) : o.wp e.P a w next Q :=
  wp_value hrun (hk _ _ _ _ h ⟨hr, hI, Ext.refl _ _ _⟩)

theorem sound_move (hI : Inv e x w m) (hT : RepL x tm a.tmps.toList) (hk : Goes e x m a o next k res) {y : Operand} (ho : o.op = .move y ∨ o.op = .assign y)
    (h : (match evT e.P tm o.type y with | some v => k (.pure v) | none => none) = some res) : o.wp e.P a w next Q := by
  split at h
  · rename_i v hv
    refine pure_op hI hk h (evT_rep hT hv) ?_
    rcases ho with ho | ho <;> simp [execOp, ho]
  · cases h

theorem sound_pick (hI : Inv e x w m) (hT : RepL x tm a.tmps.toList) (hk : Goes e x m a o next k res) {c y z : Operand} (ho : o.op = .pick c y z)
    (h : (match evT e.P tm 0 c with
      | some (.dv (.val (.bool true))) => match evT e.P tm o.type y with | some v => k (.pure v) | none => none
      | some (.dv (.val (.bool false))) => match evT e.P tm o.type z with | some v => k (.pure v) | none => none
      | _ => none) = some res) : o.wp e.P a w next Q := by
  split at h
  · rename_i hc
    have hc' := Rep.val (evT_rep hT hc)
    split at h
    · rename_i v hv
      exact pure_op hI hk h (evT_rep hT hv) (by simp [execOp, ho, hc', asBool])
    · cases h
  · rename_i hc
    have hc' := Rep.val (evT_rep hT hc)
    split at h
    · rename_i v hv
      exact pure_op hI hk h (evT_rep hT hv) (by simp [execOp, ho, hc', asBool])
    · cases h
  · cases h

theorem blt_iff {a b : Nat} : Nat.blt a b = true ↔ a < b := by simp

theorem sound_alloc (hI : Inv e x w m) (hk : Goes e x m a o next k res) {t : TypeId} (ho : o.op = .alloc t)
    (h : (match o.dst, zeroOf e.P t with
      | some d, some cs => if Nat.blt d 1000 then k (.full (.pl d 0) [d] [] [(d, cs)]) else none
      | _, _ => none) = some res) : o.wp e.P a w next Q := by
  split at h
  · rename_i d cs hd hz
    split at h
    · rename_i hlt
      obtain ⟨i, z, hi, hzz, _⟩ := zeroOf_rep x hz
      have hr : RepL (x.withBox d w.heap.size z.cells.size) cs z.cells.toList := by
        obtain ⟨i', z', hi', hzz', hr'⟩ := zeroOf_rep (x.withBox d w.heap.size z.cells.size) hz
        rw [hi] at hi'; cases hi'
        rw [hzz] at hzz'; cases hzz'
        exact hr'
      refine wp_value (v := .pointer (some ⟨w.heap.size, 0, none⟩)) (w' := w.alloc (.cells z.cells t)) ?_ (hk _ (x.withBox d w.heap.size z.cells.size) _ _ h ⟨.pl _ _ _ (by simp [X.withBox]), hI.withBox d (blt_iff.1 hlt) z.cells t cs (.inl hr), Ext.withBox x d _ _⟩)
      simp [execOp, ho, Instr.alloc, zeroValue, typeInfo, hi, hzz, newVar, newRow]
      try rfl
    · cases h
  · cases h

theorem sound_box (hI : Inv e x w m) (hT : RepL x tm a.tmps.toList) (hk : Goes e x m a o next k res) {t : TypeId} {y : Operand} (ho : o.op = .box t y)
    (h : (match o.dst, evT e.P tm t y with
      | some d, some v => match v.cells with
        | some cs => if Nat.blt d 1000 then k (.full (.pl d 0) [d] [] [(d, AV.scrubL [d] [] cs)]) else none
        | none => none
      | _, _ => none) = some res) : o.wp e.P a w next Q := by
  split at h
  · rename_i d v hd hv
    split at h
    · rename_i cs hcs
      split at h
      · rename_i hlt
        have hr := (evT_rep hT hv).cells' hcs
        refine wp_value (v := .pointer (some ⟨w.heap.size, 0, none⟩)) (w' := w.alloc (.cells (a.eval y).cells t)) ?_ (hk _ (x.withBox d w.heap.size (a.eval y).cells.size) _ _ h ⟨.pl _ _ _ (by simp [X.withBox]), hI.withBox d (blt_iff.1 hlt) _ t _ (.inl (hr.scrub (Ext.withBox x d _ _))), Ext.withBox x d _ _⟩)
        simp [execOp, ho, Instr.box, newVar, newRow]
        try rfl
      · cases h
    · cases h
  · cases h

theorem sound_build (hI : Inv e x w m) (hT : RepL x tm a.tmps.toList) (hk : Goes e x m a o next k res) {t : TypeId} {ps : Array (Nat × Operand)} (ho : o.op = .build t ps)
    (h : (match zeroOf e.P t, sized e.P t with
      | some cs, true => match parts e.P t tm ps.toList cs with
        | some cs => k (.pure (.agg cs))
        | none => none
      | _, _ => none) = some res) : o.wp e.P a w next Q := by
  split at h
  · rename_i cs hz hs
    split at h
    · rename_i cs' hp
      obtain ⟨us, h1, h2⟩ := build_sound (w := w) hT hz hs hp
      refine pure_op hI hk h (.agg _ _ h2) ?_
      simp only [execOp, ho, Sem.run_bind]
      rw [h1]; rfl
    · cases h
  · cases h

theorem sound_buildSlice (hI : Inv e x w m) (hT : RepL x tm a.tmps.toList) (hk : Goes e x m a o next k res) {hs : List Nat} {t : TypeId} {n : Nat} {ps : Array (Nat × Operand)} (ho : o.op = .buildSlice t n ps)
    (h : (match e.P.underlying t with
    | some (.slice el) => match kdsOf e.P 9 el, zeroOf e.P el, size? e.P el with
      | some ks, some z, some se => match AV.flats z with
        | some zr => match rowsOf e.P el ks tm ps.toList (List.replicate n zr) with
          | some rows => if Nat.beq se ks.length && Row.ofKds ks zr && Nat.ble (n * se) 16777216 then
              match o.dst with
              | some d => match mem d hs && Nat.blt d 1000 && Nat.ble n 16777216 with
                | true => k (.full (.ms d ks 0 n n) [d] [] [(d, [.arr ks rows])])
                | false => k (.pure (.sl false ks rows .ex))
              | none => k (.pure (.sl false ks rows .ex))
            else none
          | none => none
        | none => none
      | _, _, _ => none
    | _ => none) = some res) : o.wp e.P a w next Q := by
  split at h
  · rename_i el ht
    split at h
    · rename_i ks z se hks hz hse
      split at h
      · rename_i zr hzr
        split at h
        · rename_i rows hrows
          split at h
          · rename_i hc
            simp only [Bool.and_eq_true, beq_eq, Nat.ble_eq] at hc
            obtain ⟨⟨c1, c2⟩, c3⟩ := hc
            obtain ⟨⟨u, w', x', h1, h2, h3, h4⟩, hms⟩ := buildSlice_sound hI hT ht hz hzr hse hrows c1 c2 c3
            have own : k (.pure (.sl false ks rows .ex)) = some res → o.wp e.P a w next Q := by
              intro h
              refine wp_value (v := u) (w' := w') ?_ (hk _ x' _ _ h ⟨h2, h3, h4⟩)
              simp only [execOp, ho, Sem.run_bind]
              rw [h1]; rfl
            split at h
            · rename_i d hd
              split at h
              · rename_i hm
                simp only [Bool.and_eq_true, Nat.ble_eq] at hm
                obtain ⟨u, w', x', h1, h2, h3, h4⟩ := hms d (blt_iff.1 hm.1.2) hm.2
                refine wp_value (v := u) (w' := w') ?_ (hk _ x' _ _ h ⟨h2, h3, h4⟩)
                simp only [execOp, ho, Sem.run_bind]
                rw [h1]; rfl
              · exact own h
            · exact own h
          · cases h
        · cases h
      · cases h
    · cases h
  · cases h

theorem sound_load (hI : Inv e x w m) (hT : RepL x tm a.tmps.toList) (hk : Goes e x m a o next k res) {t : TypeId} {y : Operand} (ho : o.op = .load t y)
    (h : (match evT e.P tm 0 y with | some v => loadE e.P m t v k | none => none) = some res) : o.wp e.P a w next Q := by
  split at h
  · rename_i v hv
    obtain ⟨r, u, h1, h2, h3⟩ := load_sound hI (evT_rep hT hv) h
    refine pure_op hI hk h1 h2 ?_
    simp only [execOp, ho, Sem.run_bind]
    rw [h3]; rfl
  · cases h

theorem sound_store (hI : Inv e x w m) (hT : RepL x tm a.tmps.toList) (hk : Goes e x m a o next k res) {t : TypeId} {y z : Operand} (ho : o.op = .store t y z)
    (h : (match evT e.P tm 0 y, evT e.P tm t z with | some v, some x => storeE e.P m t v x k | _, _ => none) = some res) : o.wp e.P a w next Q := by
  split at h
  · rename_i v u hv hu
    obtain ⟨w', p, cs, h1, h2, h3⟩ := store_sound hI (evT_rep hT hv) (evT_rep hT hu) h
    refine wp_skip (w' := w') ?_ (hk _ x _ undef h1 ⟨.junk _, by simpa [dropAll, scrubM_nil, writes] using h3, Ext.refl _ _ _⟩)
    simp only [execOp, ho, Sem.run_bind]
    rw [h2]; rfl
  · cases h

theorem sound_nilCheck (hI : Inv e x w m) (hT : RepL x tm a.tmps.toList) (hk : Goes e x m a o next k res) {y : Operand} (ho : o.op = .nilCheck y)
    (h : (match evT e.P tm 0 y with
    | some (.pl j off) => k (.pure (.pl j off))
    | some (.pv ks row off) => k (.pure (.pv ks row off))
    | some (.pa j ks i q) => k (.pure (.pa j ks i q))
    | some (.fn f caps) => k (.pure (.fn f caps))
    | _ => none) = some res) : o.wp e.P a w next Q := by
  split at h
  · rename_i j off hv
    have hr := evT_rep hT hv
    have hr' := hr
    generalize hu : a.eval y = u at hr hr'
    cases hr with
    | pl _ _ b hb => exact pure_op hI hk h hr' (by simp [execOp, ho, hu])
  · rename_i ks row off hv
    have hr := evT_rep hT hv
    have hr' := hr
    generalize hu : a.eval y = u at hr hr'
    cases hr with
    | pv _ _ _ b q h1 h2 => exact pure_op hI hk h hr' (by simp [execOp, ho, hu])
  · rename_i j ks i q hv
    have hr := evT_rep hT hv
    have hr' := hr
    generalize hu : a.eval y = u at hr hr'
    cases hr with
    | pa _ _ _ _ b h1 => exact pure_op hI hk h hr' (by simp [execOp, ho, hu])
  · rename_i f caps hv
    have hr := evT_rep hT hv
    have hr' := hr
    generalize hu : a.eval y = u at hr hr'
    cases hr with
    | fn _ _ vs h1 => exact pure_op hI hk h hr' (by simp [execOp, ho, hu])
  · cases h

theorem sound_bin (hI : Inv e x w m) (hT : RepL x tm a.tmps.toList) (hk : Goes e x m a o next k res) {op : BinOp} {t u : TypeId} {y z : Operand} (ho : o.op = .binOp op t y z u) {p q : AV} (hp : evT e.P tm t y = some p) (hq : evT e.P tm u z = some q) {r : AV} (hb : binE e.P op t p q = some r)
    (h : k (.pure r) = some res) : o.wp e.P a w next Q := by
  obtain ⟨v, h1, h2⟩ := bin_sound (w := w) hb (evT_rep hT hp) (evT_rep hT hq) y z
  refine pure_op hI hk h h2 ?_
  simp only [execOp, ho, Sem.run_bind] at h1 ⊢
  rw [h1]; rfl

theorem sound_int (hI : Inv e x w m) (hT : RepL x tm a.tmps.toList) (hk : Goes e x m a o next k res) {op : BinOp} {t u : TypeId} {y z : Operand} (ho : o.op = .binOp op t y z u) {j l : IntKind} {p q : Int} (hp : evT e.P tm t y = some (.I j p)) (hq : evT e.P tm u z = some (.I l q)) {r : Int}
    (hrun : (do eqGuard op t y z (.int j p) (.int l q); binOp op t (.int j p) (.int l q) : Sem Value).run e.P w = .ok (.int j r) w)
    (h : k (.pure (.I j r)) = some res) : o.wp e.P a w next Q := by
  have h1 := Rep.val (evT_rep hT hp)
  have h2 := Rep.val (evT_rep hT hq)
  refine pure_op hI hk h (rep_val x rfl) (v := .int j r) ?_
  simp only [execOp, ho, h1, h2, Sem.run_bind] at hrun ⊢
  rw [hrun]; rfl

theorem sound_un (hI : Inv e x w m) (hT : RepL x tm a.tmps.toList) (hk : Goes e x m a o next k res) {op : UnOp} {t : TypeId} {y : Operand}
    (h : (match op, evT e.P tm t y with
    | .neg, some (.dv (.val (.int j n))) => k (.pure (.I j (j.wrap (0 - n))))
    | .not, some (.dv (.val (.bool b))) => k (.pure (.B (!b)))
    | _, _ => none) = some res) (ho : o.op = .unOp op t y) : o.wp e.P a w next Q := by
  split at h
  · rename_i j n hv
    have h1 := Rep.val (evT_rep hT hv)
    exact pure_op hI hk h (rep_val x rfl) (v := .int j (j.wrap (0 - n))) (by simp [execOp, ho, h1, Op.unary, Op.intArith])
  · rename_i b hv
    have h1 := Rep.val (evT_rep hT hv)
    exact pure_op hI hk h (rep_val x rfl) (v := .bool !b) (by simp [execOp, ho, h1, Op.unary])
  · cases h

theorem sound_convert (hI : Inv e x w m) (hT : RepL x tm a.tmps.toList) (hk : Goes e x m a o next k res) {src dst : TypeId} {y : Operand} (ho : o.op = .convert src dst y)
    (h : (match e.P.underlying src, e.P.underlying dst, evT e.P tm src y with
    | some (.int _), some (.int j), some (.dv (.val (.int _ n))) => k (.pure (.I j (j.wrap n)))
    | some .string, some .string, some (.dv (.val (.string s))) => k (.pure (.S s))
    | some (.slice el), some .string, some (.sl _ [.i .u8] rows _) =>
      match e.P.underlying el with
      | some (.int .u8) => k (.pure (.S (bytesOf rows)))
      | _ => none
    | _, _, _ => none) = some res) : o.wp e.P a w next Q := by
  split at h
  · rename_i i j i2 n hs hd hv
    have h1 := Rep.val (evT_rep hT hv)
    exact pure_op hI hk h (rep_val x rfl) (v := .int j (j.wrap n)) (by simp [execOp, ho, h1, convert, run_underlying hs, run_underlying hd, Conv.intToInt])
  · rename_i s hs hd hv
    have h1 := Rep.val (evT_rep hT hv)
    exact pure_op hI hk h (rep_val x rfl) (v := .string s) (by simp [execOp, ho, h1, convert, run_underlying hs, run_underlying hd])
  · rename_i el n rows r hs hd hv
    split at h
    · rename_i hel
      have hr := evT_rep hT hv
      have hb := bytes_sound hI hr
      refine pure_op hI hk h (rep_val x rfl) (v := .string (bytesOf rows)) ?_
      have : ∃ q c b, a.eval y = .slice q c b := by
        generalize a.eval y = u at hr
        cases hr with
        | sl _ _ _ _ _ hd _ =>
        rcases hd.rows with ⟨_, _, rfl⟩ | ⟨_, _, _, rfl, _⟩
        · exact ⟨_, _, _, rfl⟩
        · exact ⟨_, _, _, rfl⟩
      obtain ⟨q, c, b, hq⟩ := this
      rw [hq] at hb
      have h2 := run_convert_bytes_string (P := e.P) w src dst el q c b hs hel hd
      simp only [execOp, ho, Sem.run_bind, hq]
      rw [h2, hb]; rfl
    · cases h
  · cases h

theorem sound_makeInterface (hI : Inv e x w m) (hT : RepL x tm a.tmps.toList) (hk : Goes e x m a o next k res) {t : TypeId} {y : Operand} (ho : o.op = .makeInterface t y)
    (h : (match e.P.underlying t, evT e.P tm t y with
    | some (.interface _), _ => none
    | some _, some v => k (.pure (.ifc t v))
    | _, _ => none) = some res) : o.wp e.P a w next Q := by
  split at h
  · cases h
  · rename_i d v hne hd hv
    have hc : e.P.concrete t = true := by
      unfold Program.concrete
      rw [hd]
      split
      · rename_i ms heq; exact absurd (Option.some.inj heq) (by rintro rfl; exact hne ms rfl)
      · rename_i heq; cases heq
      · rfl
    refine pure_op hI hk h (.ifc _ _ _ (evT_rep hT hv)) ?_
    simp only [execOp, ho, Sem.run_bind]
    rw [run_makeInterface w t _ hc]; rfl
  · cases h

theorem sound_makeFunc (hI : Inv e x w m) (hT : RepL x tm a.tmps.toList) (hk : Goes e x m a o next k res) {f : FuncId} {first caps : Array Operand} (ho : o.op = .makeFunc (.func f) first caps)
    (h : (match first.toList, evs e.P tm [] caps.toList with
    | [], some l => k (.pure (.fn f l))
    | _, _ => none) = some res) : o.wp e.P a w next Q := by
  split at h
  · rename_i l hf hl
    have hr := evs_rep hT hl
    obtain ⟨first⟩ := first
    obtain ⟨caps⟩ := caps
    simp only at hf hr
    subst hf
    refine pure_op hI hk h (.fn _ _ _ hr) ?_
    simp [execOp, ho, Instr.makeFunc]
  · cases h

theorem elemOk_size {P : Program} {t : TypeId} {ks : List Kd} (h : elemOk P t ks = true) : ∃ el, P.underlying t = some (.slice el) ∧ size? P el = some ks.length := by
  unfold elemOk at h
  split at h
  · rename_i el hu
    split at h
    · rename_i ke n hke hn
      simp only [Bool.and_eq_true, beq_eq] at h
      obtain ⟨h1, rfl⟩ := h
      obtain rfl := Kd.sameL_eq h1
      exact ⟨el, hu, hn⟩
    · cases h
  · cases h

theorem sound_slice (hI : Inv e x w m) (hT : RepL x tm a.tmps.toList) (hk : Goes e x m a o next k res) {t : TypeId} {y : Operand} {lo hi mx : Option Operand} (ho : o.op = .slice t y lo hi mx)
    (h : (match evT e.P tm t y, evO e.P tm lo, evO e.P tm hi, evO e.P tm mx with
    | some (.dv (.val (.string s))), some l, some h, some q => match e.P.underlying t with | some .string => sliceE (.S s) l h q k | _ => none
    | some (.sl n ks rows r), some l, some h, some q => if elemOk e.P t ks then sliceE (.sl n ks rows r) l h q k else none
    | some (.ms j ks off n c), some l, some h, some q => if elemOk e.P t ks then sliceE (.ms j ks off n c) l h q k else none
    | _, _, _, _ => none) = some res) : o.wp e.P a w next Q := by
  split at h
  · rename_i s l hh q hv hl hh' hq
    split at h
    · rename_i ht
      have h1 := Rep.val (evT_rep hT hv)
      obtain ⟨v, z, p1, p2, p3⟩ := sliceStr_sound (w := w) ht (evO_rep hT hl) (evO_rep hT hh') (evO_rep hT hq) h
      refine pure_op hI hk p1 p2 ?_
      simp only [execOp, ho, Sem.run_bind, h1]
      rw [p3]; rfl
    · cases h
  · rename_i n ks rows r l hh q hv hl hh' hq
    split at h
    · rename_i hok
      obtain ⟨el, ht, hsz⟩ := elemOk_size hok
      obtain ⟨v, z, p1, p2, p3⟩ := slice_sound (w := w) ht hsz (evO_rep hT hl) (evO_rep hT hh') (evO_rep hT hq) (evT_rep hT hv) h
      refine pure_op hI hk p1 p2 ?_
      simp only [execOp, ho, Sem.run_bind]
      rw [p3]; rfl
    · cases h
  · rename_i j ks off n c l hh q hv hl hh' hq
    split at h
    · rename_i hok
      obtain ⟨el, ht, hsz⟩ := elemOk_size hok
      obtain ⟨v, z, p1, p2, p3⟩ := sliceMs_sound (w := w) ht hsz (evO_rep hT hl) (evO_rep hT hh') (evO_rep hT hq) (evT_rep hT hv) h
      refine pure_op hI hk p1 p2 ?_
      simp only [execOp, ho, Sem.run_bind]
      rw [p3]; rfl
    · cases h
  · cases h

theorem sound_fieldAddr (hI : Inv e x w m) (hT : RepL x tm a.tmps.toList) (hk : Goes e x m a o next k res) {s : TypeId} {y : Operand} {f : Nat} (ho : o.op = .fieldAddr s y f)
    (h : (match field? e.P s f, evT e.P tm 0 y with
    | some (off, ft), some (.pl j q) => match size? e.P ft with | some n => if Nat.blt 0 n then k (.pure (.pl j (q + off))) else none | none => none
    | some (off, ft), some (.pv ks row q) => match size? e.P ft with | some n => if Nat.blt 0 n then k (.pure (.pv ks row (q + off))) else none | none => none
    | some (off, ft), some (.pa j ks i q) => match size? e.P ft with | some n => if Nat.blt 0 n then k (.pure (.pa j ks i (q + off))) else none | none => none
    | _, _ => none) = some res) : o.wp e.P a w next Q := by
  split at h
  · rename_i off ft j q hf hv
    have hr := evT_rep hT hv
    split at h
    · rename_i n hn
      split at h
      · rename_i h0
        generalize hu : a.eval y = u at hr
        cases hr with
        | pl _ _ b hb =>
        refine pure_op hI hk h (.pl _ _ _ hb) ?_
        simp only [execOp, ho, Sem.run_bind, hu]
        rw [field_sound hf hn (blt_iff.1 h0)]; rfl
      · cases h
    · cases h
  · rename_i off ft ks row q hf hv
    have hr := evT_rep hT hv
    split at h
    · rename_i n hn
      split at h
      · rename_i h0
        generalize hu : a.eval y = u at hr
        cases hr with
        | pv _ _ _ b p h1 h2 =>
        refine pure_op hI hk h (.pv _ _ _ _ _ h1 h2) ?_
        simp only [execOp, ho, Sem.run_bind, hu]
        rw [field_sound hf hn (blt_iff.1 h0), Nat.add_assoc]; rfl
      · cases h
    · cases h
  · rename_i off ft j ks i q hf hv
    have hr := evT_rep hT hv
    split at h
    · rename_i n hn
      split at h
      · rename_i h0
        generalize hu : a.eval y = u at hr
        cases hr with
        | pa _ _ _ _ b hb =>
        refine pure_op hI hk h (.pa _ _ _ _ _ hb) ?_
        simp only [execOp, ho, Sem.run_bind, hu]
        rw [field_sound hf hn (blt_iff.1 h0), Nat.add_assoc]; rfl
      · cases h
    · cases h
  · cases h

theorem sound_field (hI : Inv e x w m) (hT : RepL x tm a.tmps.toList) (hk : Goes e x m a o next k res) {s : TypeId} {y : Operand} {f : Nat} (ho : o.op = .field s y f)
    (h : (match field? e.P s f, evT e.P tm s y with
    | some (off, ft), some (.agg cs) =>
      match agg? e.P ft, size? e.P ft with
      | some true, some n => if Nat.ble (off + n) cs.length then k (.pure (.agg ((cs.drop off).take n))) else none
      | some false, some _ => match cs[off]? with | some v => k (.pure v) | none => none
      | _, _ => none
    | _, _ => none) = some res) : o.wp e.P a w next Q := by
  split at h
  · rename_i off ft cs hf hv
    have hr := evT_rep hT hv
    have hfield : ∃ fs fl, e.P.underlying s = some (.struct fs) ∧ fs[f]? = some fl ∧ fl.offset = off ∧ fl.type = ft := by
      unfold field? at hf
      split at hf
      · rename_i fs hu
        split at hf
        · rename_i fl hfl
          simp only [Option.some.injEq, Prod.mk.injEq] at hf
          exact ⟨fs, fl, hu, hfl, hf.1, hf.2⟩
        · cases hf
      · cases hf
    obtain ⟨fs, fl, hu, hfl, rfl, rfl⟩ := hfield
    generalize hz : a.eval y = u at hr
    cases hr with
    | agg _ vs hvs =>
    split at h
    · rename_i n ha hn
      split at h
      · rename_i hle
        refine pure_op hI hk h (.agg _ _ ((hvs.drop fl.offset).take n)) ?_
        have hp := run_partAgg (w := w) ha hn ⟨vs⟩ fl.offset
        simp [execOp, ho, Instr.field, run_underlying hu, hfl, asAgg, hz, hp, List.extract_eq_take_drop]
      · cases h
    · rename_i n ha hn
      split at h
      · rename_i v hv'
        obtain ⟨z, hz1, hz2⟩ := hvs.get hv'
        refine pure_op hI hk h hz2 ?_
        have hp := run_partOne (w := w) ha ⟨vs⟩ fl.offset (v := z) (by simpa using hz1)
        simp [execOp, ho, Instr.field, run_underlying hu, hfl, asAgg, hz, hp]
      · cases h
    · cases h
  · cases h
end Go.Den
