import Derived.Test.YtlpnccpagikioaaDoorDenP
set_option linter.unusedVariables false
set_option linter.unusedSimpArgs false
set_option linter.unusedSectionVars false
/- Thawing is sound. -/
namespace Go.Den
variable {e : Env} {R : Type} {res : R}

/-- What is known where token j's array is the slot's. -/
def X.thawed (x : X) (slot j T n : Nat) : X :=
  { M := cut x.M T, loc := fun k => if k = slot then some T else x.loc k, tk := fun k => if k = j then none else x.tk k, cap := fun k => if k = slot then n else x.cap k, M0 := x.M0 }

structure Thaw (x : X) (slot j T n : Nat) (ks : List Kd) (len c : Nat) : Prop where
  ty : ∀ q v, x.M T q = some v → Kd.tagIn (vtag v) ks = true
  M0 : Sub x.M0 (cut x.M T)
  tk : x.tk j = some (.slice (some ⟨T, 0, none⟩) len c, ks.length)
  room : c * ks.length ≤ n
  len : len ≤ c
  max : c ≤ maxLen
  other : ∀ k a n' c' sz, k ≠ j → x.tk k = some (.slice (some a) n' c', sz) → 0 < c' → a.block ≠ T

variable {x : X} {slot j T n : Nat} {ks : List Kd} {len c : Nat}
mutual
theorem Rep.melt (h : Thaw x slot j T n ks len c) : ∀ {a v}, Rep x a v → Rep (x.thawed slot j T n) (AV.melt slot j ks len a) v
  | _, _, .dv d v hd => by
    unfold AV.melt
    cases d with
    | val u => exact .dv _ v (by cases hd; exact .val _ ‹_›)
    | sl nl ls rows =>
      simp only [DV.melt]
      split
      · rename_i hc
        simp only [Bool.and_eq_true] at hc
        exact .dv _ v (meltD h.ty hd (by rintro _ _ _ ⟨⟩; exact hc))
      · exact .junk v
  | _, _, .sl nl ls rows r v hd hr => by
    unfold AV.melt
    have hplain : ∀ r' : Right, RtOk (x.thawed slot j T n) r' (.sl nl ls rows) v ls.length → Rep (x.thawed slot j T n) (match Kd.outs ks ls && Kd.inners ks ls with | true => .sl nl ls rows r' | false => .junk) v := by
      intro r' hr'
      split
      · rename_i hc
        simp only [Bool.and_eq_true] at hc
        exact .sl _ _ _ _ v (meltD h.ty hd (by rintro _ _ _ ⟨⟩; exact hc)) hr'
      · exact .junk v
    cases r with
    | no => exact hplain .no trivial
    | ex => exact hplain .ex hr
    | old =>
      have hr' : RepD x.M0 (.sl nl ls rows) v := hr
      exact .sl _ _ _ _ v (hr'.mono h.M0) hr'
    | tok k =>
      have hr' : x.tk k = some (v, ls.length) := hr
      simp only [Right.melt]
      split
      · rename_i hk
        obtain rfl := beq_eq.1 hk
        rw [h.tk] at hr'
        injection hr' with hr'
        injection hr' with hv hl
        subst hv
        split
        · rename_i hs
          exact .ms slot ks 0 len len T 0 c (by simp [X.thawed]) (Nat.le_refl _) (fun _ => by simp) ⟨h.len, by simp only [X.thawed, if_true]; have := h.room; omega, h.max⟩
        · exact .junk _
      · rename_i hk
        have hkj : k ≠ j := fun e => by subst e; simp at hk
        split
        · rename_i hi
          refine .sl _ _ _ _ v ?_ (by simp only [RtOk, X.thawed, if_neg hkj]; exact hr')
          cases hd with
          | nil => exact .nil _
          | sl _ _ a c' g1 g2 g3 =>
            refine .sl _ _ a c' g1 g2 ?_
            cases g3 with
            | nil => exact .nil _ _ _
            | cons _ _ _ row rows k1 k2 k3 =>
              have hb := h.other k a _ c' _ hkj hr' (by simp at g1; omega)
              exact .cons _ _ _ _ _ k1 (meltC h.ty k2 hb k1 hi) (meltR h.ty k3 hb hi)
        · exact .junk v
  | _, _, .agg cs vs hl => by unfold AV.melt; exact .agg _ vs (RepL.melt h hl)
  | _, _, .tup cs vs hl => by unfold AV.melt; exact .tup _ vs (RepL.melt h hl)
  | _, _, .pl k off b hk => by
    unfold AV.melt
    split
    · exact .junk _
    · rename_i hk'
      have : k ≠ slot := fun e => hk' (beq_eq.2 e)
      exact .pl k off b (by simp only [X.thawed, if_neg this]; exact hk)
  | _, _, .pv ls row off b o h1 h2 => by
    unfold AV.melt
    split
    · rename_i hc
      simp only [Bool.and_eq_true] at hc
      exact .pv ls row off b o h1 (meltC h.ty h2 (outs_ne h.ty hc.1 h1 h2) h1 hc.2)
    · exact .junk _
  | _, _, .fn f cs vs hl => by unfold AV.melt; exact .fn f _ vs (RepL.melt h hl)
  | _, _, .ifc t a v ha => by unfold AV.melt; exact .ifc t _ v (Rep.melt h ha)
  | _, _, .ms k kd off n' c1 b o c' hk g1 g2 g3 => by
    unfold AV.melt
    split
    · exact .junk _
    · rename_i hk'
      have : k ≠ slot := fun e => hk' (beq_eq.2 e)
      exact .ms k kd off n' c1 b o c' (by simp only [X.thawed, if_neg this]; exact hk) g1 g2 (by simp only [X.thawed, if_neg this]; exact g3)
  | _, _, .pa k kd i q b hk => by
    unfold AV.melt
    split
    · exact .junk _
    · rename_i hk'
      have : k ≠ slot := fun e => hk' (beq_eq.2 e)
      exact .pa k kd i q b (by simp only [X.thawed, if_neg this]; exact hk)
  | _, _, .junk v => by unfold AV.melt; exact .junk v
theorem RepL.melt (h : Thaw x slot j T n ks len c) : ∀ {l vs}, RepL x l vs → RepL (x.thawed slot j T n) (AV.meltL slot j ks len l) vs
  | _, _, .nil => by unfold AV.meltL; exact .nil
  | _, _, .cons a v l vs ha hl => by unfold AV.meltL; exact .cons _ _ _ _ (Rep.melt h ha) (RepL.melt h hl)
end
theorem Cont.melt (h : Thaw x slot j T n ks len c) {cs : List AV} {l : List Value} (hc : Cont x cs l) : Cont (x.thawed slot j T n) (AV.meltL slot j ks len cs) l := by
  rcases hc with hc | ⟨kd, rows, rfl, hc⟩
  · exact .inl (hc.melt h)
  · simp only [AV.meltL, AV.melt]
    split
    · rename_i hi; exact .inr ⟨kd, rows, rfl, meltA h.ty hc hi⟩
    · exact .inr ⟨kd, [], rfl, .nil _⟩
theorem lookup_meltM (slot j : Nat) (ks : List Kd) (n : Nat) (m : Mem) (k : Nat) : lookup (meltM slot j ks n m) k = (lookup m k).map (AV.meltL slot j ks n) := by
  induction m with
  | nil => rfl
  | cons e m ih =>
    obtain ⟨i, ds⟩ := e
    simp only [meltM, lookup, beq_eq, ih]
    by_cases h : i = k <;> simp [h]
theorem set_same {α : Type} {l : List α} {i : Nat} {v : α} (h : l[i]? = some v) : l.set i v = l := by
  apply List.ext_getElem?
  intro k
  by_cases hk : i = k
  · subst hk
    rw [List.getElem?_set_self (List.getElem?_eq_some_iff.1 h).1, h]
  · rw [List.getElem?_set_ne hk]

theorem thaw_sound (heL : e.L = []) {t slot : Nat} {s : St} {x : X} {w : World} {a : Act} {k : St → Option R} (hs : StOk e x w s a) (h : thaw t slot s k = some res) :
    ∃ x' s', StOk e x' w s' a ∧ k s' = some res := by
  unfold thaw at h
  split at h
  · rename_i nl ks rows j ht
    obtain ⟨v, hv, hr⟩ := hs.tmps.get ht
    have hr0 := hr
    cases hr with | sl _ _ _ _ _ hd hrt => ?_
    have hrt : x.tk j = some (v, ks.length) := hrt
    split at h
    · rename_i hc
      refine ⟨x, ⟨s.t.set t (.sl nl ks [] (.tok j)), s.m⟩, ⟨hs.inv, ?_, hs.defers⟩, h⟩
      have hrows : rows = [] := by
        rcases hd.rows with ⟨_, g, _⟩ | ⟨_, _, g, _⟩
        · exact g
        · subst g
          simpa using hc
      subst hrows
      have := hs.tmps.set t hr0
      rw [set_same hv] at this
      exact this
    · rename_i hc
      simp only [Bool.or_eq_false_iff] at hc
      obtain ⟨hc1, hc2⟩ := hc
      split at h
      · rename_i hc3
        simp only [Bool.and_eq_true, Nat.blt_eq] at hc3
        obtain ⟨hks, hslot⟩ := hc3
        rcases hd.rows with ⟨g, _, _⟩ | ⟨ad, c, g, rfl, gc, gsp, gr⟩
        · rw [g] at hc1; cases hc1
        have hne : rows ≠ [] := fun e => by subst e; simp at hc2
        have hpos : 0 < rows.length := List.length_pos_iff.2 hne
        obtain ⟨cur, ty, p1, p2, p3, p4, p5, p6, p7⟩ := hs.inv.tok j _ _ hrt ad rows.length c rfl (by omega)
        obtain ⟨T, o, sp⟩ := ad
        simp only at p1 p2 p4 p7 gr
        subst p1; subst p2
        have p3 : e.w0.heap.size ≤ T := by
          rcases p3 with p3 | p3
          · exact p3
          · rw [heL] at p3; cases p3
        have hI := hs.inv
        have hty : ∀ q u, x.M T q = some u → Kd.tagIn (vtag u) ks = true := by
          intro q u hq
          refine rows_typed gr (Nat.zero_le _) ?_ hq
          by_cases hlt : q < 0 + rows.length * ks.length
          · exact hlt
          · rw [p7 q (by omega)] at hq; cases hq
        have hlow : ∀ b o u, e.x0.M b o = some u → b ≠ T := fun b o u hb => by have := hI.low b o u hb; omega
        have hM0 : Sub x.M0 (cut x.M T) := by
          intro b o u hb
          rw [hI.more.M0] at hb
          rw [cut_ne _ _ (hlow b o u hb)]
          exact hI.mono b o u hb
        have hother : ∀ k a n' c' sz, k ≠ j → x.tk k = some (.slice (some a) n' c', sz) → 0 < c' → a.block ≠ T :=
          fun k a n' c' sz hk h1 h2 h3 => hk (hI.toktok k j a n' c' sz _ _ _ _ h1 hrt h2 (by omega) h3)
        have hT : Thaw x slot j T cur.size ks rows.length c := ⟨hty, hM0, hrt, p6, gc, p5, hother⟩
        have hsub : Sub (cut x.M T) x.M := by
          intro b o u hb
          simp only [cut] at hb
          split at hb
          · cases hb
          · exact hb
        have hnone : ∀ b o, x.M b o = none → cut x.M T b o = none := by
          intro b o hb
          simp only [cut]
          split
          · rfl
          · exact hb
        have hlk : ∀ k cs, lookup (write (meltM slot j ks rows.length (drop s.m slot)) slot [.arr ks rows]) k = some cs →
            (k = slot ∧ cs = [.arr ks rows]) ∨ (k ≠ slot ∧ ∃ c0, lookup s.m k = some c0 ∧ cs = AV.meltL slot j ks rows.length c0) := by
          intro k cs hk
          rw [lookup_write] at hk
          by_cases hks : k = slot
          · rw [if_pos hks] at hk; exact .inl ⟨hks, (Option.some.inj hk).symm⟩
          · rw [if_neg hks, lookup_meltM, lookup_drop, if_neg hks] at hk
            obtain ⟨c0, h0, h1⟩ := Option.map_eq_some_iff.1 hk
            exact .inr ⟨hks, c0, h0, h1.symm⟩
        have hlocT : ∀ k c0, lookup s.m k = some c0 → x.loc k ≠ some T := fun k c0 h0 => hI.tokslot j _ _ _ _ k c0 hrt (by omega) h0
        refine ⟨x.thawed slot j T cur.size, _, ⟨?_, hs.tmps.melt hT, hs.defers⟩, h⟩
        refine ⟨fun b o u hb => hI.sub b o u (hsub b o u hb), ?_, ?_, ?_, ?_, ?_, hI.os, hI.tape, hI.output, hI.size, hI.old, ?_, fun b o u hb => hI.new b o u (hsub b o u hb), ?_, hI.low, ⟨?_, ?_, ?_, ?_⟩, hI.glob⟩
        · intro k cs hk
          rcases hlk k cs hk with ⟨rfl, rfl⟩ | ⟨hks, c0, h0, rfl⟩
          · refine ⟨T, ty, cur, by simp [X.thawed], .inl p3, p4, .inr ⟨ks, rows, rfl, meltA hty (gr.arrV fun q u hq => ?_) hks⟩, fun o => by simp [X.thawed, cut]⟩
            have := hI.sub T (0 + q) u hq
            simp only [World.cell?, p4, Nat.zero_add] at this
            rw [Array.getElem?_toList]; exact this
          · obtain ⟨b, ty', arr, h1, h2, h3, h4, h5⟩ := hI.slot k c0 h0
            exact ⟨b, ty', arr, by simp only [X.thawed, if_neg hks]; exact h1, h2, h3, h4.melt hT, fun o => hnone b o (h5 o)⟩
        · intro k k' cs cs' b hk hk' hb hb'
          simp only [X.thawed] at hb hb'
          rcases hlk k cs hk with ⟨rfl, rfl⟩ | ⟨hks, c0, h0, rfl⟩
          · rcases hlk k' cs' hk' with ⟨h1, _⟩ | ⟨hks', c1, h1, rfl⟩
            · exact h1.symm
            · rw [if_pos rfl] at hb; rw [if_neg hks'] at hb'
              obtain rfl := Option.some.inj hb
              exact absurd hb' (hlocT k' c1 h1)
          · rcases hlk k' cs' hk' with ⟨rfl, rfl⟩ | ⟨hks', c1, h1, rfl⟩
            · rw [if_pos rfl] at hb'; rw [if_neg hks] at hb
              obtain rfl := Option.some.inj hb'
              exact absurd hb (hlocT k c0 h0)
            · rw [if_neg hks] at hb; rw [if_neg hks'] at hb'
              exact hI.inj k k' c0 c1 b h0 h1 hb hb'
        · intro k u sz hk a' n' c' hu hpos'
          simp only [X.thawed] at hk
          split at hk
          · cases hk
          · obtain ⟨cur', ty', q1, q2, q3, q4, q5, q6, q7⟩ := hI.tok k u sz hk a' n' c' hu hpos'
            exact ⟨cur', ty', q1, q2, q3, q4, q5, q6, fun i hi => hnone _ _ (q7 i hi)⟩
        · intro k a' n' c' sz i cs hk hpos' hi hl
          simp only [X.thawed] at hk hl
          split at hk
          · cases hk
          · rename_i hkj
            rcases hlk i cs hi with ⟨rfl, rfl⟩ | ⟨hks, c0, h0, rfl⟩
            · rw [if_pos rfl] at hl
              exact hother k a' n' c' sz hkj hk hpos' (Option.some.inj hl).symm
            · rw [if_neg hks] at hl
              exact hI.tokslot k a' n' c' sz i c0 hk hpos' h0 hl
        · intro k k' a' n' c' sz a2 n2 c2 sz2 hk hk' h1 h2 hab
          simp only [X.thawed] at hk hk'
          split at hk
          · cases hk
          · split at hk'
            · cases hk'
            · exact hI.toktok k k' a' n' c' sz a2 n2 c2 sz2 hk hk' h1 h2 hab
        · intro b o u hb
          show cut x.M T b o = some u
          rw [cut_ne _ _ (hlow b o u hb)]
          exact hI.mono b o u hb
        · intro k hk
          simp only [X.thawed]
          rw [if_neg (by omega)]; exact hI.ext k hk
        · intro k b cs hk hb
          simp only [X.thawed] at hb ⊢
          rcases hlk k cs hk with ⟨rfl, rfl⟩ | ⟨hks, c0, h0, rfl⟩
          · rw [if_pos rfl] at hb ⊢
            obtain rfl := Option.some.inj hb
            exact ⟨cur, ty, p4, Nat.le_refl _⟩
          · rw [if_neg hks] at hb ⊢
            exact hI.more.room k b c0 h0 hb
        · intro k hk
          simp only [X.thawed]
          rw [if_neg (by omega)]; exact hI.more.ext k hk
        · exact hI.more.M0
        · exact hI.more.drawn
      · cases h
  · exact ⟨x, s, hs, h⟩
  · cases h

/-! freezing -/
theorem ArrV.rowsAt {M M' : Mm} (hM : Sub M M') {ks : List Kd} : ∀ {rows : Rows} {l : List Value}, ArrV M ks rows l → ∀ {b o : Nat}, (∀ q v, q < rows.length * ks.length → l[q]? = some v → M' b (o + q) = some v) → RowsAt M' b o ks rows
  | _, _, .nil l, b, o, _ => .nil b o ks
  | _, _, .cons row vs rows l h1 h2 h3, b, o, h => by
    have hl := Row.ofKds_length h1
    have hv := h2.length
    refine .cons b o ks row rows h1 (cellsAt hM h2 fun q v hq => ?_) (ArrV.rowsAt hM h3 fun q v hq hlq => ?_)
    · have hlt := (List.getElem?_eq_some_iff.1 hq).1
      refine h q v (by simp only [List.length_cons, Nat.add_mul, Nat.one_mul]; omega) ?_
      rw [List.getElem?_append_left hlt]; exact hq
    · have := h (ks.length + q) v (by simp only [List.length_cons, Nat.add_mul, Nat.one_mul]; omega) (by rw [List.getElem?_append_right (by omega), ← hlq]; congr 1; omega)
      rw [← this]; congr 1; omega
where cellsAt {M M' : Mm} (hM : Sub M M') : ∀ {row : Row} {vs : List Value}, CellsV M row vs → ∀ {b o : Nat}, (∀ q v, vs[q]? = some v → M' b (o + q) = some v) → CellsAt M' b o row
  | _, _, .nil, b, o, _ => .nil b o
  | _, _, .cons d v r vs h1 h2, b, o, h => .cons b o d v r (by simpa using h 0 v (by simp)) (h1.mono hM) (cellsAt hM h2 fun q u hq => by have := h (q + 1) u (by simpa using hq); rw [← this]; congr 1; omega)
theorem ArrV.drop {M : Mm} {ks : List Kd} : ∀ {rows : Rows} {l : List Value}, ArrV M ks rows l → ∀ n, n ≤ rows.length → ArrV M ks (rows.drop n) (l.drop (n * ks.length))
  | _, _, .nil l, n, _ => by simpa using ArrV.nil _
  | _, _, .cons row vs rows l h1 h2 h3, 0, _ => by simpa using ArrV.cons row vs rows l h1 h2 h3
  | _, _, .cons row vs rows l h1 h2 h3, n + 1, hn => by
    have := ArrV.drop h3 n (by simpa using hn)
    have hl := Row.ofKds_length h1
    have hv := h2.length
    rw [List.drop_succ_cons, Nat.add_mul, Nat.one_mul, show n * ks.length + ks.length = vs.length + n * ks.length by omega, ← List.drop_drop, List.drop_left]
    exact this
theorem ArrV.take {M : Mm} {ks : List Kd} : ∀ {rows : Rows} {l : List Value}, ArrV M ks rows l → ∀ n, ArrV M ks (rows.take n) l
  | _, _, .nil l, n => by simpa using ArrV.nil _
  | _, _, .cons row vs rows l h1 h2 h3, 0 => by simpa using ArrV.nil _
  | _, _, .cons row vs rows l h1 h2 h3, n + 1 => by simpa using ArrV.cons row vs _ l h1 h2 (ArrV.take h3 n)

theorem freeze_sound {t : Nat} {s : St} {x : X} {w : World} {a : Act} {k : St → Option R} (hs : StOk e x w s a) (h : freeze t s k = some res) :
    ∃ x' s', StOk e x' w s' a ∧ k s' = some res := by
  unfold freeze at h
  split at h
  · rename_i slot ks off n c ht
    obtain ⟨v, hv, hr⟩ := hs.tmps.get ht
    cases hr with | ms _ _ _ _ _ b o c' hb g1 g2 g3 => ?_
    split at h
    · rename_i ks2 rows hlk
      split at h
      · rename_i hc
        simp only [Bool.and_eq_true, Nat.blt_eq] at hc
        obtain ⟨hks, hslot⟩ := hc
        obtain rfl := Kd.sameL_eq hks
        split at h
        · rename_i hlen
          have hI := hs.inv
          have hlk := lookupA_eq hlk
          obtain ⟨b', ty, arr, p1, p2, p3, p4, p5⟩ := hI.slot slot _ hlk
          rw [hb] at p1
          obtain rfl := Option.some.inj p1
          have hbase : e.w0.heap.size ≤ b := by rcases p2 with p2 | p2; exact p2; omega
          obtain ⟨arr', ty', q1, q2⟩ := hI.more.room slot b _ hlk hb
          rw [p3] at q1
          cases q1
          obtain ⟨g3, g4, g5⟩ := g3
          have harr := p4.arr
          let M' : Mm := fun b' q => if b' = b ∧ q < (off + n) * ks.length then arr[q]? else x.M b' q
          have hsub : Sub x.M M' := by
            intro b' q u hu
            simp only [M']
            rw [if_neg]
            · exact hu
            · rintro ⟨rfl, _⟩; rw [p5] at hu; cases hu
          have hmul : (off + n) * ks.length = off * ks.length + n * ks.length := Nat.add_mul _ _ _
          have hd : RepD M' (.sl false ks ((rows.drop off).take n)) (.slice (some ⟨b, o, none⟩) n c') := by
            have hln : ((rows.drop off).take n).length = n := by rw [List.length_take, List.length_drop]; omega
            conv => rhs; rw [← hln]
            refine .sl ks _ ⟨b, o, none⟩ c' (by omega) (fun _ => rfl) ?_
            by_cases hn : n = 0
            · subst hn; simpa using RowsAt.nil b o ks
            · refine ((harr.drop off (by omega)).take n).rowsAt hsub fun q u hq hl => ?_
              rw [hln] at hq
              rw [List.getElem?_drop, Array.getElem?_toList] at hl
              have ho := g2 (by omega)
              simp only [M']
              rw [if_pos (by simp only [true_and]; omega), ho]; exact hl
          let tk' : Nat → Option (Value × Nat) := fun j => if j = 40000 + t then (match Nat.beq off 0 with | true => some (.slice (some ⟨b, o, none⟩) n c', ks.length) | false => none) else x.tk j
          let x' : X := { x with M := M', tk := tk' }
          have hext : Ext x x' [slot] [40000 + t] := by
            refine ⟨hsub, fun _ _ _ h => h, fun j z hj hz => ?_, fun _ _ => rfl, rfl⟩
            have : j ≠ 40000 + t := fun e => by subst e; simp [mem] at hj
            simp only [x', tk', if_neg this]; exact hz
          have hntk : ∀ j u sz, tk' j = some (u, sz) → (j = 40000 + t ∧ off = 0 ∧ u = .slice (some ⟨b, o, none⟩) n c' ∧ sz = ks.length) ∨ (j ≠ 40000 + t ∧ x.tk j = some (u, sz)) := by
            intro j u sz hj
            simp only [tk'] at hj
            split at hj
            · rename_i hjt
              split at hj
              · rename_i h0
                cases hj
                exact .inl ⟨hjt, beq_eq.1 h0, rfl, rfl⟩
              · cases hj
            · rename_i hjt; exact .inr ⟨hjt, hj⟩
          have hm : ∀ k cs, lookup (scrubM [slot] [40000 + t] (drop s.m slot)) k = some cs → k ≠ slot ∧ ∃ c0, lookup s.m k = some c0 ∧ cs = AV.scrubL [slot] [40000 + t] c0 := by
            intro k cs hk
            rw [lookup_scrubM, lookup_drop] at hk
            split at hk
            · simp at hk
            · rename_i hks
              obtain ⟨c0, h0, h1⟩ := Option.map_eq_some_iff.1 hk
              exact ⟨hks, c0, h0, h1.symm⟩
          have hne : ∀ k c0 b', k ≠ slot → lookup s.m k = some c0 → x.loc k = some b' → b' ≠ b := fun k c0 b' h1 h2 h3 e => h1 (hI.inj k slot c0 _ b h2 hlk (by rw [h3, e]) hb)
          have htok : ∀ j a' n' c2 sz, x.tk j = some (.slice (some a') n' c2, sz) → 0 < c2 → a'.block ≠ b := fun j a' n' c2 sz h1 h2 e => hI.tokslot j a' n' c2 sz slot _ h1 h2 hlk (by rw [hb, e])
          have hM' : ∀ b' q, b' ≠ b → M' b' q = x.M b' q := fun b' q hbb => by simp only [M']; rw [if_neg fun h => hbb h.1]
          refine ⟨x', _, ⟨?_, ?_, hs.defers⟩, h⟩
          · refine ⟨?_, ?_, ?_, ?_, ?_, ?_, hI.os, hI.tape, hI.output, hI.size, hI.old, hI.mono.trans hsub, ?_, hI.ext, hI.low, ?_, hI.glob⟩
            · intro b' q u hu
              simp only [x', M'] at hu
              split at hu
              · rename_i hbq
                obtain ⟨rfl, _⟩ := hbq
                simp only [World.cell?, p3]; exact hu
              · exact hI.sub b' q u hu
            · intro k cs hk
              obtain ⟨h1, c0, h0, rfl⟩ := hm k cs hk
              obtain ⟨b2, ty2, arr2, r1, r2, r3, r4, r5⟩ := hI.slot k c0 h0
              exact ⟨b2, ty2, arr2, r1, r2, r3, r4.scrub hext, fun q => by show M' b2 q = none; rw [hM' b2 q (hne k c0 b2 h1 h0 r1)]; exact r5 q⟩
            · intro k k' cs cs' b2 hk hk' hb2 hb2'
              obtain ⟨_, c0, h0, _⟩ := hm k cs hk
              obtain ⟨_, c1, h1, _⟩ := hm k' cs' hk'
              exact hI.inj k k' c0 c1 b2 h0 h1 hb2 hb2'
            · intro j u sz hj a' n' c2 hu hpos
              rcases hntk j u sz hj with ⟨rfl, h0, rfl, rfl⟩ | ⟨h1, h2⟩
              · injection hu with e1 e2 e3
                injection e1 with e1
                subst e1; subst e2; subst e3; subst h0
                have ho := g2 hpos
                simp only [Nat.zero_mul] at ho
                refine ⟨arr, ty, ho, rfl, .inl hbase, p3, g5, by omega, fun q hq => ?_⟩
                simp only [x', M']
                rw [if_neg (by rintro ⟨_, h5⟩; rw [Nat.zero_add] at h5; omega)]
                exact p5 q
              · obtain ⟨cur, ty2, r1, r2, r3, r4, r5, r6, r7⟩ := hI.tok j u sz h2 a' n' c2 hu hpos
                refine ⟨cur, ty2, r1, r2, r3, r4, r5, r6, fun q hq => ?_⟩
                show M' a'.block q = none
                rw [hM' _ q (htok j a' n' c2 sz (by rw [← hu]; exact h2) hpos)]; exact r7 q hq
            · intro j a' n' c2 sz k cs hj hpos hk hl
              obtain ⟨h1, c0, h0, _⟩ := hm k cs hk
              rcases hntk j _ sz hj with ⟨_, _, hu, _⟩ | ⟨_, h2⟩
              · injection hu with e1 e2 e3
                injection e1 with e1
                subst e1
                exact hne k c0 b h1 h0 hl rfl
              · exact hI.tokslot j a' n' c2 sz k c0 h2 hpos h0 hl
            · intro j j' a' n' c2 sz a2 n2 c3 sz2 hj hj' h1 h2 hab
              rcases hntk j _ sz hj with ⟨r1, _, hu, _⟩ | ⟨_, r2⟩
              · rcases hntk j' _ sz2 hj' with ⟨r1', _, hu', _⟩ | ⟨_, r2'⟩
                · rw [r1, r1']
                · injection hu with e1 e2 e3
                  injection e1 with e1
                  subst e1
                  exact absurd hab.symm (htok j' a2 n2 c3 sz2 r2' h2)
              · rcases hntk j' _ sz2 hj' with ⟨r1', _, hu', _⟩ | ⟨_, r2'⟩
                · injection hu' with e1 e2 e3
                  injection e1 with e1
                  subst e1
                  exact absurd hab (htok j a' n' c2 sz r2 h1)
                · exact hI.toktok j j' a' n' c2 sz a2 n2 c3 sz2 r2 r2' h1 h2 hab
            · intro b' q u hu
              simp only [x', M'] at hu
              split at hu
              · rename_i hbq
                obtain ⟨rfl, _⟩ := hbq
                exact .inr (.inl hbase)
              · exact hI.new b' q u hu
            · refine hI.more.step (fun k b2 cs hk hb2 => ?_) (fun b2 ar t2 hb2 => ⟨ar, t2, hb2, Nat.le_refl _⟩) (fun _ _ => rfl) rfl (Nat.le_refl _)
              obtain ⟨_, c0, h0, _⟩ := hm k cs hk
              exact ⟨c0, h0, hb2, rfl⟩
          · have hset := (hs.tmps.scrub hext).set t (a := .sl false ks ((rows.drop off).take n) (match Nat.beq off 0 with | true => .tok (40000 + t) | false => .no)) (v := .slice (some ⟨b, o, none⟩) n c') (by
              refine .sl _ _ _ _ _ hd ?_
              split
              · rename_i h0
                show tk' (40000 + t) = _
                simp only [tk', if_true, h0]
              · trivial)
            rw [set_same hv] at hset
            exact hset
        · cases h
      · cases h
    · cases h
  · exact ⟨x, s, hs, h⟩
  · cases h

theorem niled_sound {t : Nat} {s : St} {x : X} {w : World} {a : Act} {k : St → Option R} (hs : StOk e x w s a) (h : niled t s k = some res) :
    ∃ x' s', StOk e x' w s' a ∧ k s' = some res := by
  unfold niled at h
  split at h
  · rename_i nl ks rows r ht
    obtain ⟨v, hv, hr⟩ := hs.tmps.get ht
    cases nl with
    | true =>
      have hset := hs.tmps.set t (a := .sl true ks [] .ex) (v := v) (by
        cases hr with
        | sl _ _ _ _ _ hd hrt =>
          cases hd with
          | nil => exact .sl _ _ _ _ _ (.nil ks) ⟨_, _, rfl⟩)
      rw [set_same hv] at hset
      exact ⟨x, ⟨s.t.set t (.sl true ks [] .ex), s.m⟩, ⟨hs.inv, hset, hs.defers⟩, h⟩
    | false =>
      have hset := hs.tmps.set t hr
      rw [set_same hv] at hset
      exact ⟨x, ⟨s.t.set t (.sl false ks rows r), s.m⟩, ⟨hs.inv, hset, hs.defers⟩, h⟩
  · exact ⟨x, s, hs, h⟩
  · cases h

theorem pre_sound0 (heL : e.L = []) {w : World} {a : Act} {k : St → Option R} : ∀ {l : List Nat} {s : St} {x : X}, StOk e x w s a → pre l s k = some res → ∃ x' s', StOk e x' w s' a ∧ k s' = some res
  | [], s, x, hs, h => ⟨x, s, hs, h⟩
  | 0 :: t :: slot :: l, s, x, hs, h => by
    obtain ⟨x', s', hs', h'⟩ := thaw_sound heL hs h
    exact pre_sound0 heL hs' h'
  | 1 :: t :: l, s, x, hs, h => by
    obtain ⟨x', s', hs', h'⟩ := freeze_sound hs h
    exact pre_sound0 heL hs' h'
  | 2 :: t :: l, s, x, hs, h => by
    obtain ⟨x', s', hs', h'⟩ := niled_sound hs h
    exact pre_sound0 heL hs' h'
  | [0], s, x, hs, h => by cases h
  | [0, _], s, x, hs, h => by cases h
  | [1], s, x, hs, h => by cases h
  | [2], s, x, hs, h => by cases h
  | (n + 3) :: l, s, x, hs, h => by cases l <;> cases h
theorem pre_sound {w : World} {a : Act} {k : St → Option R} {l : List Nat} {s : St} {x : X} (hl : e.L = [] ∨ l = []) (hs : StOk e x w s a) (h : pre l s k = some res) : ∃ x' s', StOk e x' w s' a ∧ k s' = some res := by
  rcases hl with hl | hl
  · exact pre_sound0 hl hs h
  · subst hl; exact ⟨x, s, hs, h⟩

/-! what was known at first -/
mutual
theorem Rep.olden {x : X} (h : x.M0 = x.M) : ∀ {a v}, Rep x a v → Rep x a.olden v
  | _, _, .dv d v hd => by unfold AV.olden; exact .dv d v hd
  | _, _, .sl n kd rows r v hd hr => by
    unfold AV.olden
    refine .sl n kd rows _ v hd ?_
    cases r with
    | no => show RepD x.M0 _ v; rw [h]; exact hd
    | ex => exact hr
    | tok k => exact hr
    | old => exact hr
  | _, _, .agg cs vs hl => by unfold AV.olden; exact .agg _ vs (RepL.olden h hl)
  | _, _, .tup cs vs hl => by unfold AV.olden; exact .tup _ vs (RepL.olden h hl)
  | _, _, .pl k off b hk => by unfold AV.olden; exact .pl k off b hk
  | _, _, .pv kd row off b o h1 h2 => by unfold AV.olden; exact .pv kd row off b o h1 h2
  | _, _, .fn f cs vs hl => by unfold AV.olden; exact .fn f _ vs (RepL.olden h hl)
  | _, _, .ifc t a v ha => by unfold AV.olden; exact .ifc t _ v (Rep.olden h ha)
  | _, _, .ms k kd off n c b o c' hk g1 g2 g3 => by unfold AV.olden; exact .ms k kd off n c b o c' hk g1 g2 g3
  | _, _, .pa k kd i j b hk => by unfold AV.olden; exact .pa k kd i j b hk
  | _, _, .junk v => by unfold AV.olden; exact .junk v
theorem RepL.olden {x : X} (h : x.M0 = x.M) : ∀ {l vs}, RepL x l vs → RepL x (AV.oldenL l) vs
  | _, _, .nil => by unfold AV.oldenL; exact .nil
  | _, _, .cons a v l vs ha hl => by unfold AV.oldenL; exact .cons _ _ _ _ (Rep.olden h ha) (RepL.olden h hl)
end
theorem oldenL_length : ∀ l : List AV, (AV.oldenL l).length = l.length
  | [] => rfl
  | a :: l => by simp [AV.oldenL, oldenL_length l]
end Go.Den
