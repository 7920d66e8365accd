import Derived.Test.YtlpnccpagikioaaDoorDenR
set_option linter.unusedVariables false
set_option linter.unusedSimpArgs false
set_option linter.unusedSectionVars false
/- Every operation is sound: the rest, and all together. -/
namespace Go.Den
variable {e : Env} {x : X} {w : World} {m : Mem} {tm : List AV} {a : Act} {next : Act → World → Prop} {Q : Exit → Act → World → Prop} {R : Type} {res : R} {k kp : Eff → Option R} {o : Oper}

theorem sound_indexAddr (hI : Inv e x w m) (hT : RepL x tm a.tmps.toList) (hk : Goes e x m a o next k res) {t : TypeId} {y z : Operand} (ho : o.op = .indexAddr t y z)
    (h : (match evT e.P tm t y, evT e.P tm 0 z with
    | some (.sl _ ks rows _), some (.dv (.val (.int _ i))) =>
      if elemOk e.P t ks && Nat.blt 0 ks.length then if 0 ≤ i then if i < (rows.length : Int) then k (.pure (.pv ks (rows.getD i.toNat []) 0)) else none else none else none
    | some (.ms j ks off n _), some (.dv (.val (.int _ i))) =>
      if elemOk e.P t ks && Nat.blt 0 ks.length then if 0 ≤ i then if i < (n : Int) then k (.pure (.pa j ks (off + i.toNat) 0)) else none else none else none
    | _, _ => none) = some res) : o.wp e.P a w next Q := by
  split at h
  · rename_i n ks rows r j i hv hi
    split at h
    · rename_i hok
      simp only [Bool.and_eq_true] at hok
      obtain ⟨el, ht, hsz⟩ := elemOk_size hok.1
      split at h
      · rename_i h0
        split at h
        · rename_i h1
          have hr := evT_rep hT hv
          have hi' := Rep.val (evT_rep hT hi)
          have hlt : i.toNat < rows.length := by omega
          generalize hz : a.eval y = u at hr
          cases hr with
          | sl _ _ _ _ _ hd _ =>
          rcases hd.rows with ⟨_, rfl, _⟩ | ⟨ad, c, _, rfl, hc, hsp, hro⟩
          · simp at hlt
          · have hne : rows ≠ [] := fun hh => by subst hh; simp at hlt
            obtain ⟨q1, q2⟩ := hro.get hlt
            refine pure_op hI hk h (.pv ks _ 0 ad.block (ad.off + i.toNat * ks.length) q1 q2) ?_
            simp [execOp, ho, Instr.indexAt, asIntOf, hi', hz, run_underlying ht, h0, h1, run_size hsz, add_addr (hsp hne)]
        · cases h
      · cases h
    · cases h
  · rename_i j ks off n c kk i hv hi
    split at h
    · rename_i hok
      simp only [Bool.and_eq_true] at hok
      obtain ⟨el, ht, hsz⟩ := elemOk_size hok.1
      split at h
      · rename_i h0
        split at h
        · rename_i h1
          have hr := evT_rep hT hv
          have hi' := Rep.val (evT_rep hT hi)
          generalize hz : a.eval y = u at hr
          cases hr with
          | ms _ _ _ _ _ b o' c' hb g1 g2 g3 =>
          have ho' := g2 (by omega)
          subst ho'
          have hpa : Rep x (.pa j ks (off + i.toNat) 0) (.pointer (some ⟨b, off * ks.length + i.toNat * ks.length, none⟩)) := by
            have := Rep.pa (x := x) j ks (off + i.toNat) 0 b hb
            rwa [Nat.add_zero, Nat.add_mul] at this
          refine pure_op hI hk h hpa ?_
          simp [execOp, ho, Instr.indexAt, asIntOf, hi', hz, run_underlying ht, h0, h1, run_size hsz, add_addr]
        · cases h
      · cases h
    · cases h
  · cases h

theorem bt_get (s : ByteArray) (i : Int) (h0 : 0 ≤ i) (h1 : i < (s.size : Int)) : s[i.toNat]? = some (s[i.toNat]'(by omega)) ∧ ((s[i.toNat]'(by omega)).toNat : Int) = bt s i := by
  have hlt : i.toNat < s.size := by omega
  refine ⟨by simp [getElem?_pos, hlt], ?_⟩
  unfold bt
  have hlt' : i.toNat < s.data.toList.length := by simpa using hlt
  rw [List.getD_eq_getElem?_getD, List.getElem?_eq_getElem hlt']
  simp only [Option.getD_some, Array.getElem_toList]
  rfl

theorem sound_index (hI : Inv e x w m) (hT : RepL x tm a.tmps.toList) (hk : Goes e x m a o next k res) {t : TypeId} {y z : Operand} (ho : o.op = .index t y z)
    (h : (match evT e.P tm t y, evT e.P tm 0 z with
    | some (.dv (.val (.string s))), some (.dv (.val (.int _ i))) =>
      match e.P.underlying t with
      | some .string => if 0 ≤ i then if i < (s.size : Int) then k (.pure (.I .u8 (bt s i))) else none else none
      | _ => none
    | some (.agg cs), some (.dv (.val (.int _ i))) =>
      match e.P.underlying t with
      | some (.array l el) => match kdsOf e.P 9 el, agg? e.P el, size? e.P el, AV.flats cs with
        | some [kd], some false, some 1, some row =>
          if Nat.beq cs.length l && Row.ofKds (List.replicate l kd) row then
            if 0 ≤ i then if i < (l : Int) then k (.pure (Row.cell kd row i.toNat)) else none else none
          else none
        | _, _, _, _ => none
      | _ => none
    | _, _ => none) = some res) : o.wp e.P a w next Q := by
  split at h
  · rename_i s j i hv hi
    split at h
    · rename_i ht
      split at h
      · rename_i h0
        split at h
        · rename_i h1
          have hs := Rep.val (evT_rep hT hv)
          have hi' := Rep.val (evT_rep hT hi)
          obtain ⟨q1, q2⟩ := bt_get s i h0 h1
          refine pure_op hI hk h (rep_val x rfl) (v := .int .u8 (bt s i)) ?_
          simp [execOp, ho, Instr.index, asIntOf, hi', hs, run_underlying ht, h0, q1, q2]
        · cases h
      · cases h
    · cases h
  · rename_i cs j i hv hi
    split at h
    · rename_i l el ht
      split at h
      · rename_i kd row hks hag hsz hrow
        split at h
        · rename_i hc
          simp only [Bool.and_eq_true, beq_eq] at hc
          obtain ⟨hcl, hof⟩ := hc
          split at h
          · rename_i h0
            split at h
            · rename_i h1
              have hr := evT_rep hT hv
              have hi' := Rep.val (evT_rep hT hi)
              generalize hz : a.eval y = u at hr
              cases hr with
              | agg _ vs hvs =>
              obtain ⟨c1, c2⟩ := Row.toCells hvs rfl hrow
              have hlt : i.toNat < l := by omega
              obtain ⟨d, hd, hkd⟩ := Row.ofKds_get hof (j := i.toNat) (k := kd) (by rw [List.getElem?_replicate, if_pos hlt])
              obtain ⟨v, hv1, hv2⟩ := c2 _ d hd
              have hrep : Rep x (Row.cell kd row i.toNat) v := by
                -- one cell of a row, known by itself
                have hat : Row.at row i.toNat = d := by simp [Row.at, List.getD, hd]
                cases kd with
                | b => cases d with
                  | val u => cases u <;> simp [DV.ofKd] at hkd; simp only [Row.cell, Row.B, hat, DV.toB]; exact .dv _ _ hv2
                  | sl => simp [DV.ofKd] at hkd
                | i k => cases d with
                  | val u => cases u <;> simp [DV.ofKd] at hkd; subst hkd; simp only [Row.cell, Row.I, hat, DV.toI]; exact .dv _ _ hv2
                  | sl => simp [DV.ofKd] at hkd
                | s => cases d with
                  | val u => cases u <;> simp [DV.ofKd] at hkd; simp only [Row.cell, Row.S, hat, DV.toS]; exact .dv _ _ hv2
                  | sl => simp [DV.ofKd] at hkd
                | sl ks => cases d with
                  | val u => simp [DV.ofKd] at hkd
                  | sl n ls rows => simp only [DV.ofKd] at hkd; obtain rfl := Kd.sameL_eq hkd; simp only [Row.cell, Row.N, Row.R, hat, DV.toNl, DV.toRows]; exact .sl _ _ _ _ _ hv2 trivial
                | o => cases d with
                  | val u => simp only [Row.cell, Row.V, hat, DV.toV]; exact .dv _ _ hv2
                  | sl => simp [DV.ofKd] at hkd
              refine pure_op hI hk h hrep ?_
              have hp := run_partOne (w := w) hag ⟨vs⟩ i.toNat (v := v) (by simpa using hv1)
              simp [execOp, ho, Instr.index, asIntOf, hi', hz, run_underlying ht, h0, h1, run_size hsz, hp]
            · cases h
          · cases h
        · cases h
      · cases h
    · cases h
  · cases h

theorem sound_typeAssert (hI : Inv e x w m) (hT : RepL x tm a.tmps.toList) (hk : Goes e x m a o next k res) {t0 t : TypeId} {y : Operand} (ho : o.op = .typeAssert y t0 t false)
    (h : (match e.P.underlying t, evT e.P tm 0 y with
    | some (.interface _), _ => none
    | some _, some (.ifc u v) => if Nat.beq u t then k (.pure v) else none
    | _, _ => none) = some res) : o.wp e.P a w next Q := by
  split at h
  · cases h
  · rename_i d u v hne hd hv
    split at h
    · rename_i heq
      simp only [beq_eq] at heq
      subst heq
      have hr := evT_rep hT hv
      generalize hz : a.eval y = z at hr
      cases hr with
      | ifc _ _ v' hv' =>
      refine pure_op hI hk h hv' ?_
      have : (Instr.typeAssert (.iface u v') t0 u false).run e.P w = .ok v' w := by
        cases d <;> first | exact (hne _ rfl).elim | simp [Instr.typeAssert, run_underlying hd]
      simp only [execOp, ho, Sem.run_bind, hz]
      rw [this]; rfl
    · cases h
  · cases h

theorem sound_extract (hI : Inv e x w m) (hT : RepL x tm a.tmps.toList) (hk : Goes e x m a o next k res) {y : Operand} {i : Nat} (ho : o.op = .extract y i)
    (h : (match evT e.P tm 0 y with
    | some (.tup vs) => match vs[i]? with | some v => k (.pure v) | none => none
    | _ => none) = some res) : o.wp e.P a w next Q := by
  split at h
  · rename_i vs hv
    split at h
    · rename_i v hv'
      have hr := evT_rep hT hv
      generalize hz : a.eval y = z at hr
      cases hr with
      | tup _ us hus =>
      obtain ⟨u, hu, hru⟩ := hus.get hv'
      refine pure_op hI hk h hru ?_
      have hu' : (⟨us⟩ : Array Value)[i]? = some u := by simpa using hu
      simp [execOp, ho, Instr.extract, hz, hu']
    · cases h
  · cases h

theorem sound_panic (hI : Inv e x w m) (hT : RepL x tm a.tmps.toList) {y : Operand} (ho : o.op = .panic y)
    (hkp : ∀ eff x' w' v, kp eff = some res → After e x x' w' m v eff → Q (.panic [{ v, recovered := false }]) a w')
    (h : (match evT e.P tm o.type y with
    | some (.ifc t v) => kp (.pure (.ifc t v))
    | _ => none) = some res) : o.wp e.P a w next Q := by
  split at h
  · rename_i t v hv
    have hr := evT_rep hT hv
    have hr' := hr
    generalize hz : a.eval y = z at hr hr'
    cases hr with
    | ifc _ _ u hu =>
    have hq := hkp _ x w _ h ⟨hr', hI, Ext.refl _ _ _⟩
    unfold Oper.wp
    have : (execOp a.eval o).run e.P w = .halt (.panic (.iface t u)) w := by simp [execOp, ho, hz, Instr.panic, goPanic]
    rw [this]; exact hq
  · cases h

theorem run_call_builtin {P : Program} {b : Builtin} {ys : List Operand} {ts : Array TypeId} (ho : o.op = .call { callee := .builtin b, args := ⟨ys⟩, argTypes := ts }) :
    ∃ consts, (execOp a.eval o).run P w = (builtin b ts o.type consts ⟨ys.map a.eval⟩).run P w := by
  refine ⟨(⟨ys⟩ : Array Operand).map fun | .const _ => true | _ => false, ?_⟩
  simp only [execOp, ho, resolve, invoke, Sem.run_bind, Sem.run_pure, Result.andThen_ok, List.map_toArray]
  rfl

theorem sound_builtin (hI : Inv e x w m) (hT : RepL x tm a.tmps.toList) (hk : Goes e x m a o next k res) {b : Builtin} {ys : Array Operand} {ts : Array TypeId} (ho : o.op = .call { callee := .builtin b, args := ys, argTypes := ts }) {args : List AV}
    (hargs : evs e.P tm ts.toList ys.toList = some args) (h : builtinE e.P m o.dst b ts.toList args k = some res) : o.wp e.P a w next Q := by
  have hr := evs_rep hT hargs
  obtain ⟨ys⟩ := ys
  obtain ⟨ts⟩ := ts
  simp only at hr h hargs
  obtain ⟨consts, hrun⟩ := run_call_builtin (a := a) (w := w) (P := e.P) ho
  generalize hys : ys.map a.eval = vals at hr hrun
  clear hargs hys
  unfold builtinE at h
  split at h
  · rename_i s
    split at h
    · rename_i t ts'
      split at h
      · rename_i ht
        cases hr with | cons _ v _ vs h1 h2 => ?_
        cases h2
        obtain rfl := Rep.val h1
        exact pure_op hI hk h (rep_val x rfl) (v := .int .i64 s.size) (by rw [hrun]; simp [builtin, Builtin.len_, run_underlying ht, goInt])
      · cases h
    · cases h
  · rename_i n ks rows r
    split at h
    · rename_i t ts'
      split at h
      · rename_i el ht
        cases hr with | cons _ v _ vs h1 h2 => ?_
        cases h2
        have : ∃ q c, v = .slice q rows.length c := by
          cases h1 with
          | sl _ _ _ _ _ hd _ =>
          rcases hd.rows with ⟨_, rfl, rfl⟩ | ⟨ad, c, _, rfl, _⟩
          · exact ⟨none, 0, rfl⟩
          · exact ⟨some ad, c, rfl⟩
        obtain ⟨q, c, rfl⟩ := this
        exact pure_op hI hk h (rep_val x rfl) (v := .int .i64 rows.length) (by rw [hrun]; simp [builtin, Builtin.len_, run_underlying ht, goInt])
      · cases h
    · cases h
  · rename_i j ks off n c
    split at h
    · rename_i t ts'
      split at h
      · rename_i el ht
        cases hr with | cons _ v _ vs h1 h2 => ?_
        cases h2
        cases h1 with | ms _ _ _ _ _ b o' c' hb g1 g2 g3 => ?_
        exact pure_op hI hk h (rep_val x rfl) (v := .int .i64 n) (by rw [hrun]; simp [builtin, Builtin.len_, run_underlying ht, goInt])
      · cases h
    · cases h
  · rename_i j p l q
    split at h
    · rename_i hjl
      subst hjl
      cases hr with | cons _ v _ vs h1 h2 => ?_
      cases h2 with | cons _ v2 _ vs2 h3 h4 => ?_
      cases h4
      obtain rfl := Rep.val h1; obtain rfl := Rep.val h3
      exact pure_op hI hk h (rep_val x rfl) (v := .int j (if q < p then q else p)) (by rw [hrun]; simp [builtin, Builtin.min_, Builtin.min2])
    · cases h
  · rename_i j p l q
    split at h
    · rename_i hjl
      subst hjl
      cases hr with | cons _ v _ vs h1 h2 => ?_
      cases h2 with | cons _ v2 _ vs2 h3 h4 => ?_
      cases h4
      obtain rfl := Rep.val h1; obtain rfl := Rep.val h3
      exact pure_op hI hk h (rep_val x rfl) (v := .int j (if q > p then q else p)) (by rw [hrun]; simp [builtin, Builtin.max_, Builtin.max2])
    · cases h
  · rename_i n ks rows r n2 ks2 rows2 r2
    split at h
    · rename_i d t t2 hd
      split at h
      · rename_i el ht
        split at h
        · rename_i i ke strike hi hke hst
          split at h
          · rename_i z hz
            split at h
            · rename_i hc
              simp only [Bool.and_eq_true, beq_eq, Nat.blt_eq] at hc
              obtain ⟨⟨⟨⟨⟨c1, c2⟩, c3⟩, c4⟩, c5⟩, c6⟩ := hc
              subst c1
              obtain rfl := Kd.sameL_eq c2
              obtain rfl := Kd.sameL_eq c3
              split at h
              · rename_i hlen
                cases hr with | cons _ v _ vs h1 h2 => ?_
                cases h2 with | cons _ v2 _ vs2 h3 h4 => ?_
                cases h4
                obtain ⟨v', w', x', p1, p2, p3, p4⟩ := append_ok hI h1 h3 (d := d) hst (ty := o.type) ht hi hz c4 c5 c6 hlen
                refine wp_value (v := v') (w' := w') ?_ (hk _ x' _ _ h ⟨p2, by simpa [dropAll, writes] using p3, p4⟩)
                rw [hrun]
                simp only [builtin, Sem.run_bind]
                rw [p1]; rfl
              · cases h
            · cases h
          · cases h
        · cases h
      · cases h
    · cases h
  · rename_i j ks off n c
    cases hr with | cons _ v _ vs h1 h2 => ?_
    cases h2
    have hts : ∃ t, ts = [t] := by
      unfold clearE at h
      split at h
      · exact ⟨_, rfl⟩
      · cases h
    obtain ⟨t, rfl⟩ := hts
    obtain ⟨eff, w', u, p1, p2, p3⟩ := clear_sound hI (ty := o.type) h1 h
    refine wp_value (v := u) (w' := w') ?_ (hk eff x _ _ p1 p2)
    rw [hrun]
    simp only [builtin, Sem.run_bind]
    rw [p3]; rfl
  · rename_i j ks off n c nl ks2 rows2 r2
    cases hr with | cons _ v _ vs h1 h2 => ?_
    cases h2 with | cons _ v2 _ vs2 h3 h4 => ?_
    cases h4
    have hts : ∃ t t2, ts = [t, t2] := by
      unfold copyE at h
      split at h
      · exact ⟨_, _, rfl⟩
      · cases h
    obtain ⟨t, t2, rfl⟩ := hts
    obtain ⟨eff, w', u, p1, p2, p3⟩ := copy_sound hI (ty := o.type) h1 h3 h
    refine wp_value (v := u) (w' := w') ?_ (hk eff x _ _ p1 p2)
    rw [hrun]
    simp only [builtin, Sem.run_bind]
    rw [p3]; rfl
  · cases h

theorem sound_call {Φ : Orc} (hΦ : OSound e.P Φ) (hI : Inv e x w m) (hT : RepL x tm a.tmps.toList) (hk : Goes e x m a o next k res)
    (hkp : ∀ eff x' w' v, kp eff = some res → After e x x' w' m v eff → Q (.panic [{ v, recovered := false }]) a w')
    {f : Operand} {ys : Array Operand} {ts : Array TypeId} (ho : o.op = .call { callee := .value f, args := ys, argTypes := ts })
    (h : (match evT e.P tm 0 f, evs e.P tm ts.toList ys.toList with
      | some (.fn f caps), some args => callE Φ m o.dst f (args ++ caps) k kp
      | _, _ => none) = some res) : o.wp e.P a w next Q := by
  split at h
  · rename_i g caps args hf hargs
    have hr := evs_rep hT hargs
    have hrf := evT_rep hT hf
    generalize hz : a.eval f = z at hrf
    cases hrf with
    | fn _ _ cv hcv =>
    obtain ⟨⟨fn, h1, h2, h3⟩, hcalls⟩ := call_sound hΦ hI (hr.append hcv) h
    unfold Oper.wp
    have hrun : (execOp a.eval o).run e.P w = .ok (.enter g ⟨ys.toList.map a.eval ++ cv⟩) w := by
      have hb : fn.body.isNone = false := by cases hbb : fn.body <;> simp [hbb] at h2 ⊢
      obtain ⟨ys⟩ := ys
      simp only [execOp, ho, resolve, hz, Deferred.ofValue, invoke, callFunc, Sem.run_bind, Sem.run_pure, Result.andThen_ok, run_program, h1]
      rw [if_neg (by simpa using h3), if_neg (by simp [hb])]
      simp only [Sem.run_pure]
      congr 2
      apply Array.ext'
      simp
    rw [hrun]
    refine hcalls.mono ?_
    rintro en w' ⟨eff, x', v, hafter, hen⟩
    rcases hen with ⟨rfl, hk'⟩ | ⟨rfl, hk'⟩
    · exact hk eff x' w' v hk' hafter
    · exact hkp eff x' w' v hk' hafter
  · cases h

/-- ONE OPERATION. -/
theorem op_sound {Φ : Orc} (hΦ : OSound e.P Φ) (hI : Inv e x w m) (hT : RepL x tm a.tmps.toList) (hk : Goes e x m a o next k res)
    (hkp : ∀ eff x' w' v, kp eff = some res → After e x x' w' m v eff → Q (.panic [{ v, recovered := false }]) a w')
    (h : opE e.P Φ tm m o k kp = some res) : o.wp e.P a w next Q := by
  unfold opE at h
  split at h
  · rename_i y ho; exact sound_move hI hT hk (.inl ho) h
  · rename_i y ho; exact sound_move hI hT hk (.inr ho) h
  · rename_i c y z ho; exact sound_pick hI hT hk ho h
  · rename_i t ho; exact sound_alloc hI hk ho h
  · rename_i t y ho; exact sound_box hI hT hk ho h
  · rename_i t ps ho; exact sound_build hI hT hk ho h
  · rename_i t n ps ho; exact sound_buildSlice hI hT hk ho h
  · rename_i t y ho; exact sound_load hI hT hk ho h
  · rename_i t y z ho; exact sound_store hI hT hk ho h
  · rename_i y ho; exact sound_nilCheck hI hT hk ho h
  · rename_i op t y z u ho
    split at h
    · split at h
      · rename_i j p l q hp hq
        split at h
        · rename_i hj
          subst hj
          split at h
          · cases h
          · rename_i h0
            exact sound_int hI hT hk ho hp hq (by simp [eqGuard, binOp, Op.intDiv, h0]) h
        · cases h
      · cases h
    · split at h
      · rename_i j p l q hp hq
        split at h
        · rename_i hj
          subst hj
          split at h
          · cases h
          · rename_i h0
            exact sound_int hI hT hk ho hp hq (by simp [eqGuard, binOp, Op.intDiv, h0]) h
        · cases h
      · cases h
    · split at h
      · rename_i j p l q hp hq
        split at h
        · cases h
        · rename_i h0
          exact sound_int hI hT hk ho hp hq (by simp [eqGuard, binOp, Op.shift, h0]) h
      · cases h
    · split at h
      · rename_i j p l q hp hq
        split at h
        · cases h
        · rename_i h0
          exact sound_int hI hT hk ho hp hq (by simp [eqGuard, binOp, Op.shift, h0]) h
      · cases h
    · split at h
      · rename_i p q hp hq
        split at h
        · rename_i hlen
          have h1 := Rep.val (evT_rep hT hp)
          have h2 := Rep.val (evT_rep hT hq)
          have h3 : ¬ ((9223372036854775807 : Int) < (p.size : Int) + (q.size : Int)) := by omega
          exact pure_op hI hk h (rep_val x rfl) (v := .string (p ++ q)) (by simp [execOp, ho, h1, h2, eqGuard, binOp, Op.stringOp, h3])
        · cases h
      · rename_i p q hne hp hq
        split at h
        · rename_i r hr; exact sound_bin hI hT hk ho hp hq hr h
        · cases h
      · cases h
    · split at h
      · rename_i p q hp hq
        split at h
        · rename_i r hr; exact sound_bin hI hT hk ho hp hq hr h
        · cases h
      · cases h
  · rename_i op t y ho; exact sound_un hI hT hk h ho
  · rename_i s d y ho; exact sound_convert hI hT hk ho h
  · rename_i t y ho; exact sound_makeInterface hI hT hk ho h
  · rename_i f first caps ho; exact sound_makeFunc hI hT hk ho h
  · rename_i t y lo hi mx ho; exact sound_slice hI hT hk ho h
  · rename_i s y f ho; exact sound_fieldAddr hI hT hk ho h
  · rename_i s y f ho; exact sound_field hI hT hk ho h
  · rename_i t y z ho; exact sound_indexAddr hI hT hk ho h
  · rename_i t y z ho; exact sound_index hI hT hk ho h
  · rename_i y t0 t ho; exact sound_typeAssert hI hT hk ho h
  · rename_i y i ho; exact sound_extract hI hT hk ho h
  · rename_i y ho; exact sound_panic hI hT ho hkp h
  · rename_i c ho
    obtain ⟨callee, ys, ts⟩ := c
    simp only at h
    split at h
    · rename_i b
      split at h
      · rename_i args hargs; exact sound_builtin hI hT hk ho hargs h
      · cases h
    · rename_i f; exact sound_call hΦ hI hT hk hkp ho h
    · cases h
  · cases h
end Go.Den
