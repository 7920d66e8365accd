import Derived.Test.YtbdjanjcphgjdaaGreatDoorZ01
import Derived.OpenShut
import Derived.ShutString
import Derived.ChangeOld
import Derived.SizedLaws
import Derived.Carry
set_option linter.unusedVariables false
set_option linter.unusedSimpArgs false
set_option linter.unusedSectionVars false
namespace Go.Den
variable {e : Env} {R : Type} {res : R}

def X.thawed (x : X) (slot j T n : Nat) : X :=
 { M := cut x.M T, loc := fun k => if k = slot then some T else x.loc k, tk := fun k => if k = j then none else x.tk k, cap := fun k => if k = slot then n else x.cap k, M0 := x.M0 }

structure Thaw (x : X) (slot j T n : Nat) (ks : List Kd) (len c : Nat) : Prop where
 ty : ∀ q v, x.M T q = some v → Kd.tagIn (vtag v) ks = true
 M0 : Sub x.M0 (cut x.M T)
 tk : x.tk j = some (.slice (some ⟨T, 0, none⟩) len c, ks)
 room : c * ks.length ≤ n
 len : len ≤ c
 max : c ≤ maxLen
 other : ∀ k a n' c' sz, k ≠ j → x.tk k = some (.slice (some a) n' c', sz) → 0 < c' → a.block ≠ T

variable {x : X} {slot j T n : Nat} {ks : List Kd} {len c : Nat}
mutual
theorem Rep.melt (h : Thaw x slot j T n ks len c) : ∀ {a v}, Rep x a v → Rep (x.thawed slot j T n) (AV.melt slot j ks len a) v
 |_, _, .dv d v hd => by
  unfold AV.melt
  cases d with
  |val u => exact .dv _ v (by cases hd; exact .val _ ‹_›)
  |sl nl ls rows =>
   simp only [DV.melt]
   split
   ·rename_i hc
    simp only [Bool.and_eq_true] at hc
    exact .dv _ v (meltD h.ty hd (by rintro _ _ _ ⟨⟩; exact hc))
   ·exact .junk v
 |_, _, .sl nl ls rows r v hd hr => by
  unfold AV.melt
  have hplain : ∀ r' : Right, RtOk (x.thawed slot j T n) r' (.sl nl ls rows) v ls → Rep (x.thawed slot j T n) (match Kd.outs ks ls && Kd.inners ks ls with | true => .sl nl ls rows r' | false => .junk) v := by
   intro r' hr'
   split
   ·rename_i hc
    simp only [Bool.and_eq_true] at hc
    exact .sl _ _ _ _ v (meltD h.ty hd (by rintro _ _ _ ⟨⟩; exact hc)) hr'
   ·exact .junk v
  cases r with
  |no => exact hplain .no trivial
  |ex => exact hplain .ex hr
  |old =>
   have hr' : RepD x.M0 (.sl nl ls rows) v := hr
   exact .sl _ _ _ _ v (hr'.mono h.M0) hr'
  |tok k =>
   have hr' : x.tk k = some (v, ls) := hr
   simp only [Right.melt]
   split
   ·rename_i hk
    obtain rfl := beq_eq.1 hk
    rw [h.tk] at hr'
    injection hr' with hr'
    injection hr' with hv hl
    subst hv
    split
    ·rename_i hs
     exact .ms slot ks 0 len len T 0 c (by simp [X.thawed]) (Nat.le_refl _) (fun _ => by simp) ⟨h.len, by simp only [X.thawed, if_true]; have := h.room; omega, h.max⟩
    ·exact .junk _
   ·rename_i hk
    have hkj : k ≠ j := fun e => by subst e; simp at hk
    split
    ·rename_i hi
     refine .sl _ _ _ _ v ?_ (by simp only [RtOk, X.thawed, if_neg hkj]; exact hr')
     cases hd with
     |nil => exact .nil _
     |sl _ _ a c' g1 g2 g3 =>
      refine .sl _ _ a c' g1 g2 ?_
      cases g3 with
      |nil => exact .nil _ _ _
      |cons _ _ _ row rows k1 k2 k3 =>
       have hb := h.other k a _ c' _ hkj hr' (by simp at g1; omega)
       exact .cons _ _ _ _ _ k1 (meltC h.ty k2 hb k1 hi) (meltR h.ty k3 hb hi)
    ·exact .junk v
 |_, _, .agg cs vs hl => by unfold AV.melt; exact .agg _ vs (RepL.melt h hl)
 |_, _, .tup cs vs hl => by unfold AV.melt; exact .tup _ vs (RepL.melt h hl)
 |_, _, .pl k off b hk => by
  unfold AV.melt
  split
  ·exact .junk _
  ·rename_i hk'
   have : k ≠ slot := fun e => hk' (beq_eq.2 e)
   exact .pl k off b (by simp only [X.thawed, if_neg this]; exact hk)
 |_, _, .pv ls row off b o h1 h2 => by
  unfold AV.melt
  split
  ·rename_i hc
   simp only [Bool.and_eq_true] at hc
   exact .pv ls row off b o h1 (meltC h.ty h2 (outs_ne h.ty hc.1 h1 h2) h1 hc.2)
  ·exact .junk _
 |_, _, .fn f cs vs hl => by unfold AV.melt; exact .fn f _ vs (RepL.melt h hl)
 |_, _, .ifc t a v ha => by unfold AV.melt; exact .ifc t _ v (Rep.melt h ha)
 |_, _, .ms k kd off n' c1 b o c' hk g1 g2 g3 => by
  unfold AV.melt
  split
  ·exact .junk _
  ·rename_i hk'
   have : k ≠ slot := fun e => hk' (beq_eq.2 e)
   exact .ms k kd off n' c1 b o c' (by simp only [X.thawed, if_neg this]; exact hk) g1 g2 (by simp only [X.thawed, if_neg this]; exact g3)
 |_, _, .pa k kd i q b hk => by
  unfold AV.melt
  split
  ·exact .junk _
  ·rename_i hk'
   have : k ≠ slot := fun e => hk' (beq_eq.2 e)
   exact .pa k kd i q b (by simp only [X.thawed, if_neg this]; exact hk)
 |_, _, .junk v => by unfold AV.melt; exact .junk v
theorem RepL.melt (h : Thaw x slot j T n ks len c) : ∀ {l vs}, RepL x l vs → RepL (x.thawed slot j T n) (AV.meltL slot j ks len l) vs
 |_, _, .nil => by unfold AV.meltL; exact .nil
 |_, _, .cons a v l vs ha hl => by unfold AV.meltL; exact .cons _ _ _ _ (Rep.melt h ha) (RepL.melt h hl)
end
theorem meltL_map (slot j : Nat) (ks : List Kd) (n : Nat) : ∀ l, AV.meltL slot j ks n l = l.map (AV.melt slot j ks n)
 |[] => rfl
 |a :: l => by simp [AV.meltL, meltL_map slot j ks n l]
theorem inners_flat (ks : List Kd) : ∀ ls : List Kd, flatKds ls = true → Kd.inners ks ls = true
 |[], _ => rfl
 |k :: ls, h => by
  unfold Kd.inners
  have h2 : flatKds ls = true := by cases k <;> first | exact h | cases h
  rw [inners_flat ks ls h2, Bool.and_true]
  cases k <;> first | rfl | cases h
theorem MpMap.melt (slot j : Nat) (ks : List Kd) (n : Nat) : MpMap (AV.melt slot j ks n) where
 tag ag := by cases ag <;> rfl
 arr ls rows := by
  simp only [AV.melt]
  split
  ·exact ⟨_, rfl⟩
  ·exact ⟨_, rfl⟩
 flat ls rows h := by simp only [AV.melt, inners_flat ks ls h]
 tag' a ag h := by
  cases a with
  |sl nl ls rows r => cases ag <;> (cases r <;> simp only [AV.melt, Right.melt, mpTag] at h <;> first | (split at h <;> first | (split at h <;> cases h) | cases h) | cases h)
  |dv d =>
   cases d with
   |val v => exact h
   |sl => cases ag <;> (simp only [AV.melt, DV.melt] at h; split at h <;> cases h)
  |_ => cases ag <;> (simp only [AV.melt, mpTag] at h <;> first | (split at h <;> cases h) | cases h)
 arr' a ls rows h := by
  cases a with
  |sl nl ls' rows' r => cases r <;> simp only [AV.melt, Right.melt] at h <;> first | (split at h <;> first | (split at h <;> cases h) | cases h) | cases h
  |dv d =>
   cases d with
   |val v => cases h
   |sl => simp only [AV.melt, DV.melt] at h; split at h <;> cases h
  |arr ls' rows' =>
   simp only [AV.melt] at h
   split at h <;> cases h <;> exact ⟨_, rfl⟩
  |junk => cases h
  |_ => simp only [AV.melt] at h <;> first | (split at h <;> cases h) | cases h
theorem isMp_melt (slot j : Nat) (ks : List Kd) (n : Nat) (cs : List AV) : isMp (AV.meltL slot j ks n cs) = isMp cs := by rw [meltL_map]; exact (MpMap.melt slot j ks n).isMp cs
theorem Cont.melt (h : Thaw x slot j T n ks len c) {cs : List AV} {l : List Value} (hc : Cont x cs l) : Cont (x.thawed slot j T n) (AV.meltL slot j ks len cs) l := by
 rcases hc with hc | ⟨kd, rows, rfl, hc⟩ | ⟨ag, kd, rows, rfl, hc⟩
 ·exact .inl (hc.melt h)
 ·simp only [AV.meltL, AV.melt]
  split
  ·rename_i hi; exact Cont.inr_arr (meltA h.ty hc hi)
  ·exact Cont.inr_arr (.nil _)
 ·rw [meltL_map]; exact Cont.mpMap (x := x) (MpMap.melt slot j ks len) hc
theorem VirMap.melt (slot j : Nat) (ks : List Kd) (n : Nat) : VirMap (AV.melt slot j ks n) where
 a a h := by
  cases a with
  |sl nl ls rows r => cases r <;> simp only [AV.melt, Right.melt] at h <;> first | (split at h <;> first | (split at h <;> cases h) | cases h) | cases h
  |dv d =>
   cases d with
   |val v => exact h
   |sl => simp only [AV.melt, DV.melt] at h; split at h <;> cases h
  |_ => simp only [AV.melt] at h <;> first | (split at h <;> cases h) | cases h
 b a r h := by
  cases a with
  |sl nl ls rows r' => cases r' <;> simp only [AV.melt, Right.melt] at h <;> first | (split at h <;> first | (split at h <;> first | (cases h; exact ⟨_, rfl⟩) | cases h) | (cases h; exact ⟨_, rfl⟩) | cases h) | (cases h; exact ⟨_, rfl⟩) | cases h
  |dv d =>
   cases d with
   |val v => cases h
   |sl => simp only [AV.melt, DV.melt] at h; split at h <;> cases h
  |_ => simp only [AV.melt] at h <;> first | (split at h <;> cases h) | cases h
 c a v h := by
  cases a with
  |sl nl ls rows r => cases r <;> simp only [AV.melt, Right.melt] at h <;> first | (split at h <;> first | (split at h <;> cases h) | cases h) | cases h
  |dv d =>
   cases d with
   |val v => exact h
   |sl => simp only [AV.melt, DV.melt] at h; split at h <;> cases h
  |_ => simp only [AV.melt] at h <;> first | (split at h <;> cases h) | cases h
theorem virgin_melt {slot j : Nat} {ks : List Kd} {n : Nat} {cs : List AV} (h : virgin (AV.meltL slot j ks n cs) = true) : virgin cs = true := (VirMap.melt slot j ks n).map (by rwa [meltL_map] at h)
theorem lookup_meltM (slot j : Nat) (ks : List Kd) (n : Nat) (m : Mem) (k : Nat) : lookup (meltM slot j ks n m) k = (lookup m k).map (AV.meltL slot j ks n) := by
 induction m with
 |nil => rfl
 |cons e m ih =>
  obtain ⟨i, ds⟩ := e
  simp only [meltM, lookup, beq_eq, ih]
  by_cases h : i = k <;> simp [h]
theorem set_same {α : Type} {l : List α} {i : Nat} {v : α} (h : l[i]? = some v) : l.set i v = l := by
 apply List.ext_getElem?
 intro k
 by_cases hk : i = k
 ·subst hk
  rw [List.getElem?_set_self (List.getElem?_eq_some_iff.1 h).1, h]
 ·rw [List.getElem?_set_ne hk]

theorem thaw_sound (heL : e.L = []) {t slot : Nat} {s : St} {x : X} {w : World} {a : Act} {k : St → Option R} (hs : StOk e x w s a) (h : thaw t slot s k = some res) :
  ∃ x' s', StOk e x' w s' a ∧ k s' = some res := by
 unfold thaw at h
 split at h
 ·rename_i nl ks rows j ht
  obtain ⟨v, hv, hr⟩ := hs.tmps.get ht
  have hr0 := hr
  cases hr with | sl _ _ _ _ _ hd hrt => ?_
  have hrt : x.tk j = some (v, ks) := hrt
  split at h
  ·rename_i hc
   refine ⟨x, ⟨s.t.set t (.sl nl ks [] (.tok j)), s.m⟩, ⟨hs.inv, ?_, hs.defers⟩, h⟩
   have hrows : rows = [] := by
    rcases hd.rows with ⟨_, g, _⟩ | ⟨_, _, g, _⟩
    ·exact g
    ·subst g
     simpa using hc
   subst hrows
   have := hs.tmps.set t hr0
   rw [set_same hv] at this
   exact this
  ·rename_i hc
   simp only [Bool.or_eq_false_iff] at hc
   obtain ⟨hc1, hc2⟩ := hc
   split at h
   ·rename_i hc3
    simp only [Bool.and_eq_true, Nat.blt_eq] at hc3
    obtain ⟨hks, hslot⟩ := hc3
    rcases hd.rows with ⟨g, _, _⟩ | ⟨ad, c, g, rfl, gc, gsp, gr⟩
    ·rw [g] at hc1; cases hc1
    have hne : rows ≠ [] := fun e => by subst e; simp at hc2
    have hpos : 0 < rows.length := List.length_pos_iff.2 hne
    obtain ⟨cur, ty, p1, p2, p3, p4, p5, p6, p7⟩ := hs.inv.tok j _ _ hrt ad rows.length c rfl (by omega)
    obtain ⟨T, o, sp⟩ := ad
    simp only at p1 p2 p4 p7 gr
    subst p1; subst p2
    have p3 : e.w0.heap.size ≤ T := by
     rcases p3 with p3 | p3
     ·exact p3
     ·rw [heL] at p3; cases p3
    have hI := hs.inv
    have hty : ∀ q u, x.M T q = some u → Kd.tagIn (vtag u) ks = true := by
     intro q u hq
     refine rows_typed gr (Nat.zero_le _) ?_ hq
     by_cases hlt : q < 0 + rows.length * ks.length
     ·exact hlt
     ·rw [p7 q (by omega)] at hq; cases hq
    have hlow : ∀ b o u, e.x0.M b o = some u → b ≠ T := fun b o u hb => by have := hI.low b o u hb; omega
    have hM0 : Sub x.M0 (cut x.M T) := by
     intro b o u hb
     rw [hI.more.M0] at hb
     rw [cut_ne _ _ (hlow b o u hb)]
     exact hI.mono b o u hb
    have hother : ∀ k a n' c' sz, k ≠ j → x.tk k = some (.slice (some a) n' c', sz) → 0 < c' → a.block ≠ T :=
     fun k a n' c' sz hk h1 h2 h3 => hk (hI.toktok k j a n' c' sz _ _ _ _ h1 hrt h2 (by omega) h3)
    have hT : Thaw x slot j T cur.size ks rows.length c := ⟨hty, hM0, hrt, p6, gc, p5.1, hother⟩
    have hsub : Sub (cut x.M T) x.M := by
     intro b o u hb
     simp only [cut] at hb
     split at hb
     ·cases hb
     ·exact hb
    have hnone : ∀ b o, x.M b o = none → cut x.M T b o = none := by
     intro b o hb
     simp only [cut]
     split
     ·rfl
     ·exact hb
    have hlk : ∀ k cs, lookup (write (meltM slot j ks rows.length (drop s.m slot)) slot [.arr ks rows]) k = some cs →
      (k = slot ∧ cs = [.arr ks rows]) ∨ (k ≠ slot ∧ ∃ c0, lookup s.m k = some c0 ∧ cs = AV.meltL slot j ks rows.length c0) := by
     intro k cs hk
     rw [lookup_write] at hk
     by_cases hks : k = slot
     ·rw [if_pos hks] at hk; exact .inl ⟨hks, (Option.some.inj hk).symm⟩
     ·rw [if_neg hks, lookup_meltM, lookup_drop, if_neg hks] at hk
      obtain ⟨c0, h0, h1⟩ := Option.map_eq_some_iff.1 hk
      exact .inr ⟨hks, c0, h0, h1.symm⟩
    have hlocT : ∀ k c0, lookup s.m k = some c0 → x.loc k ≠ some T := fun k c0 h0 => hI.tokslot j _ _ _ _ k c0 hrt (by omega) h0
    refine ⟨x.thawed slot j T cur.size, _, ⟨?_, hs.tmps.melt hT, hs.defers⟩, h⟩
    refine ⟨fun b o u hb => hI.sub b o u (hsub b o u hb), ?_, ?_, ?_, ?_, ?_, hI.os, hI.tape, hI.output, hI.size, hI.old, ?_, fun b o u hb => hI.new b o u (hsub b o u hb), ?_, hI.low, ⟨?_, ?_, ?_, ?_, ?_⟩, hI.glob⟩
    ·intro k cs hk
     rcases hlk k cs hk with ⟨rfl, rfl⟩ | ⟨hks, c0, h0, rfl⟩
     ·refine ⟨T, ty, cur, by simp [X.thawed], .inl p3, p4, Cont.inr_arr (meltA hty (gr.arrV fun q u hq => ?_) hks), fun o => by simp [X.thawed, cut]⟩
      have := hI.sub T (0 + q) u hq
      simp only [World.cell?, p4, Nat.zero_add] at this
      rw [Array.getElem?_toList]; exact this
     ·obtain ⟨b, ty', arr, h1, h2, h3, h4, h5⟩ := hI.slot k c0 h0
      exact ⟨b, ty', arr, by simp only [X.thawed, if_neg hks]; exact h1, h2, by rw [objOf_congr (isMp_melt _ _ _ _ c0)]; exact h3, h4.melt hT, fun o => hnone b o (h5 o)⟩
    ·intro k k' cs cs' b hk hk' hb hb'
     simp only [X.thawed] at hb hb'
     rcases hlk k cs hk with ⟨rfl, rfl⟩ | ⟨hks, c0, h0, rfl⟩
     ·rcases hlk k' cs' hk' with ⟨h1, _⟩ | ⟨hks', c1, h1, rfl⟩
      ·exact h1.symm
      ·rw [if_pos rfl] at hb; rw [if_neg hks'] at hb'
       obtain rfl := Option.some.inj hb
       exact absurd hb' (hlocT k' c1 h1)
     ·rcases hlk k' cs' hk' with ⟨rfl, rfl⟩ | ⟨hks', c1, h1, rfl⟩
      ·rw [if_pos rfl] at hb'; rw [if_neg hks] at hb
       obtain rfl := Option.some.inj hb'
       exact absurd hb (hlocT k c0 h0)
      ·rw [if_neg hks] at hb; rw [if_neg hks'] at hb'
       exact hI.inj k k' c0 c1 b h0 h1 hb hb'
    ·intro k u sz hk a' n' c' hu hpos'
     simp only [X.thawed] at hk
     split at hk
     ·cases hk
     ·obtain ⟨cur', ty', q1, q2, q3, q4, q5, q6, q7⟩ := hI.tok k u sz hk a' n' c' hu hpos'
      exact ⟨cur', ty', q1, q2, q3, q4, q5, q6, fun i hi => hnone _ _ (q7 i hi)⟩
    ·intro k a' n' c' sz i cs hk hpos' hi hl
     simp only [X.thawed] at hk hl
     split at hk
     ·cases hk
     ·rename_i hkj
      rcases hlk i cs hi with ⟨rfl, rfl⟩ | ⟨hks, c0, h0, rfl⟩
      ·rw [if_pos rfl] at hl
       exact hother k a' n' c' sz hkj hk hpos' (Option.some.inj hl).symm
      ·rw [if_neg hks] at hl
       exact hI.tokslot k a' n' c' sz i c0 hk hpos' h0 hl
    ·intro k k' a' n' c' sz a2 n2 c2 sz2 hk hk' h1 h2 hab
     simp only [X.thawed] at hk hk'
     split at hk
     ·cases hk
     ·split at hk'
      ·cases hk'
      ·exact hI.toktok k k' a' n' c' sz a2 n2 c2 sz2 hk hk' h1 h2 hab
    ·intro b o u hb
     show cut x.M T b o = some u
     rw [cut_ne _ _ (hlow b o u hb)]
     exact hI.mono b o u hb
    ·intro k hk
     simp only [X.thawed]
     rw [if_neg (by omega)]; exact hI.ext k hk
    ·intro k b cs hk hmp hb
     simp only [X.thawed] at hb ⊢
     rcases hlk k cs hk with ⟨rfl, rfl⟩ | ⟨hks, c0, h0, rfl⟩
     ·rw [if_pos rfl] at hb ⊢
      obtain rfl := Option.some.inj hb
      exact ⟨cur, ty, p4, Nat.le_refl _⟩
     ·rw [if_neg hks] at hb ⊢
      exact hI.more.room k b c0 h0 (by rwa [isMp_melt] at hmp) hb
    ·intro k hk
     simp only [X.thawed]
     rw [if_neg (by omega)]; exact hI.more.ext k hk
    ·exact hI.more.M0
    ·intro k b cs arr ty' hk hv hb hh
     simp only [X.thawed] at hb
     rcases hlk k cs hk with ⟨rfl, rfl⟩ | ⟨hks, c0, h0, rfl⟩
     ·cases hv
     ·rw [if_neg hks] at hb
      exact hI.more.vir k b c0 arr ty' h0 (virgin_melt hv) hb hh
    ·exact hI.more.drawn
   ·cases h
 ·exact ⟨x, s, hs, h⟩
 ·cases h

theorem ArrV.rowsAt {M M' : Mm} (hM : Sub M M') {ks : List Kd} : ∀ {rows : Rows} {l : List Value}, ArrV M ks rows l → ∀ {b o : Nat}, (∀ q v, q < rows.length * ks.length → l[q]? = some v → M' b (o + q) = some v) → RowsAt M' b o ks rows
 |_, _, .nil l, b, o, _ => .nil b o ks
 |_, _, .cons row vs rows l h1 h2 h3, b, o, h => by
  have hl := Row.ofKds_length h1
  have hv := h2.length
  refine .cons b o ks row rows h1 (cellsAt hM h2 fun q v hq => ?_) (ArrV.rowsAt hM h3 fun q v hq hlq => ?_)
  ·have hlt := (List.getElem?_eq_some_iff.1 hq).1
   refine h q v (by simp only [List.length_cons, Nat.add_mul, Nat.one_mul]; omega) ?_
   rw [List.getElem?_append_left hlt]; exact hq
  ·have := h (ks.length + q) v (by simp only [List.length_cons, Nat.add_mul, Nat.one_mul]; omega) (by rw [List.getElem?_append_right (by omega), ← hlq]; congr 1; omega)
   rw [← this]; congr 1; omega
where cellsAt {M M' : Mm} (hM : Sub M M') : ∀ {row : Row} {vs : List Value}, CellsV M row vs → ∀ {b o : Nat}, (∀ q v, vs[q]? = some v → M' b (o + q) = some v) → CellsAt M' b o row
 |_, _, .nil, b, o, _ => .nil b o
 |_, _, .cons d v r vs h1 h2, b, o, h => .cons b o d v r (by simpa using h 0 v (by simp)) (h1.mono hM) (cellsAt hM h2 fun q u hq => by have := h (q + 1) u (by simpa using hq); rw [← this]; congr 1; omega)
theorem ArrV.drop {M : Mm} {ks : List Kd} : ∀ {rows : Rows} {l : List Value}, ArrV M ks rows l → ∀ n, n ≤ rows.length → ArrV M ks (rows.drop n) (l.drop (n * ks.length))
 |_, _, .nil l, n, _ => by simpa using ArrV.nil _
 |_, _, .cons row vs rows l h1 h2 h3, 0, _ => by simpa using ArrV.cons row vs rows l h1 h2 h3
 |_, _, .cons row vs rows l h1 h2 h3, n + 1, hn => by
  have := ArrV.drop h3 n (by simpa using hn)
  have hl := Row.ofKds_length h1
  have hv := h2.length
  rw [List.drop_succ_cons, Nat.add_mul, Nat.one_mul, show n * ks.length + ks.length = vs.length + n * ks.length by omega, ← List.drop_drop, List.drop_left]
  exact this
theorem ArrV.take {M : Mm} {ks : List Kd} : ∀ {rows : Rows} {l : List Value}, ArrV M ks rows l → ∀ n, ArrV M ks (rows.take n) l
 |_, _, .nil l, n => by simpa using ArrV.nil _
 |_, _, .cons row vs rows l h1 h2 h3, 0 => by simpa using ArrV.nil _
 |_, _, .cons row vs rows l h1 h2 h3, n + 1 => by simpa using ArrV.cons row vs _ l h1 h2 (ArrV.take h3 n)

theorem lookup_chillM (slot t : Nat) (ks : List Kd) (rows : Rows) (lim : Nat) (m : Mem) (k : Nat) : lookup (chillM slot t ks rows lim m) k = (lookup m k).map (AV.chillL slot t ks rows lim) := by
 induction m with
 |nil => rfl
 |cons z m ih =>
  obtain ⟨i, ds⟩ := z
  simp only [chillM, lookup, beq_eq, ih]
  by_cases h : i = k <;> simp [h]
mutual
theorem Rep.chill {x x' : X} {slot t lim : Nat} {ks : List Kd} {rows : Rows} (h : Ext x x' [slot] [40000 + t])
  (hms : ∀ off n c v, Rep x (.ms slot ks off n c) v → off + n ≤ lim → Rep x' (.sl false ks ((rows.drop off).take n) .no) v) : ∀ {a v}, Rep x a v → Rep x' (AV.chill slot t ks rows lim a) v
 |_, _, .dv d v hd => by unfold AV.chill; exact .dv d v (hd.mono h.M)
 |_, _, .sl n kd rs r v hd hr => by unfold AV.chill; exact .sl n kd rs _ v (hd.mono h.M) (hr.scrub h)
 |_, _, .agg cs vs hl => by unfold AV.chill; exact .agg _ vs (RepL.chill h hms hl)
 |_, _, .tup cs vs hl => by unfold AV.chill; exact .tup _ vs (RepL.chill h hms hl)
 |_, _, .pl k off b hk => by
  unfold AV.chill
  by_cases hm : mem k [slot] = true
  ·rw [if_pos hm]; exact .junk _
  ·rw [if_neg hm]; exact .pl k off b (h.loc k b (by simpa using hm) hk)
 |_, _, .pv kd row off b o h1 h2 => by unfold AV.chill; exact .pv kd row off b o h1 (h2.mono h.M)
 |_, _, .fn f cs vs hl => by unfold AV.chill; exact .fn f _ vs (RepL.chill h hms hl)
 |_, _, .ifc u a v ha => by unfold AV.chill; exact .ifc u _ v (Rep.chill h hms ha)
 |_, _, .ms k kd off n c b o c' hk g1 g2 g3 => by
  unfold AV.chill
  by_cases hm : mem k [slot] = true
  ·rw [if_pos hm]
   split
   ·rename_i hc
    simp only [Bool.and_eq_true, Nat.ble_eq] at hc
    obtain rfl := Kd.sameL_eq hc.1
    have hks : k = slot := by simpa [mem] using (by simpa [mem] using hm : slot = k).symm
    subst hks
    exact hms off n c _ (.ms k kd off n c b o c' hk g1 g2 g3) hc.2
   ·exact .junk _
  ·rw [if_neg hm]; exact .ms k kd off n c b o c' (h.loc k b (by simpa using hm) hk) g1 g2 (by rw [h.cap k (by simpa using hm)]; exact g3)
 |_, _, .pa k kd i j b hk => by
  unfold AV.chill
  by_cases hm : mem k [slot] = true
  ·rw [if_pos hm]; exact .junk _
  ·rw [if_neg hm]; exact .pa k kd i j b (h.loc k b (by simpa using hm) hk)
 |_, _, .junk v => by unfold AV.chill; exact .junk v
theorem RepL.chill {x x' : X} {slot t lim : Nat} {ks : List Kd} {rows : Rows} (h : Ext x x' [slot] [40000 + t])
  (hms : ∀ off n c v, Rep x (.ms slot ks off n c) v → off + n ≤ lim → Rep x' (.sl false ks ((rows.drop off).take n) .no) v) : ∀ {l vs}, RepL x l vs → RepL x' (AV.chillL slot t ks rows lim l) vs
 |_, _, .nil => by unfold AV.chillL; exact .nil
 |_, _, .cons a v l vs ha hl => by unfold AV.chillL; exact .cons _ v _ vs (Rep.chill h hms ha) (RepL.chill h hms hl)
end
theorem chillK_eq {R : Type} {slot t : Nat} {ks : List Kd} {rows : Rows} {lim : Nat} (a : AV) (K : AV → Option R) : AV.chillK slot t ks rows lim a K = K (AV.chill slot t ks rows lim a) := by
 cases a with
 |ms k kd off n c =>
  simp only [AV.chillK, AV.chill]
  cases h1 : mem k [slot] with
  |false => simp
  |true =>
   simp only [if_true]
   cases Kd.sameL kd ks && Nat.ble (off + n) lim <;> rfl
 |_ => rfl
theorem chillLK_eq {R : Type} {slot t : Nat} {ks : List Kd} {rows : Rows} {lim : Nat} : ∀ (l : List AV) (K : List AV → Option R), chillLK slot t ks rows lim l K = K (AV.chillL slot t ks rows lim l)
 |[], K => rfl
 |a :: l, K => by simp only [chillLK, AV.chillL]; rw [chillK_eq, chillLK_eq]
theorem chillMK_eq {R : Type} {slot t : Nat} {ks : List Kd} {rows : Rows} {lim : Nat} : ∀ (m : Mem) (K : Mem → Option R), chillMK slot t ks rows lim m K = K (chillM slot t ks rows lim m)
 |[], K => rfl
 |(k, cs) :: m, K => by simp only [chillMK, chillM]; rw [chillLK_eq, chillMK_eq]
theorem chillL_map (slot t : Nat) (ks : List Kd) (rows : Rows) (lim : Nat) : ∀ l, AV.chillL slot t ks rows lim l = l.map (AV.chill slot t ks rows lim)
 |[] => rfl
 |a :: l => by simp [AV.chillL, chillL_map slot t ks rows lim l]
theorem MpMap.chill (slot t : Nat) (ks : List Kd) (rows : Rows) (lim : Nat) : MpMap (AV.chill slot t ks rows lim) where
 tag ag := by cases ag <;> rfl
 arr ls rows := ⟨_, rfl⟩
 flat ls rows h := rfl
 tag' a ag h := by
  cases a <;> cases ag <;> simp only [AV.chill, mpTag] at h <;> first | exact h | (split at h <;> first | (split at h <;> cases h) | cases h) | cases h
 arr' a ls rs h := by
  cases a with
  |arr kd rs => simp only [AV.chill] at h; exact ⟨_, h⟩
  |junk => cases h
  |_ => simp only [AV.chill] at h <;> first | (split at h <;> first | (split at h <;> cases h) | cases h) | cases h
theorem isMp_chill (slot t : Nat) (ks : List Kd) (rows : Rows) (lim : Nat) (cs : List AV) : isMp (AV.chillL slot t ks rows lim cs) = isMp cs := by rw [chillL_map]; exact (MpMap.chill slot t ks rows lim).isMp cs
theorem Cont.chill {x x' : X} {slot t lim : Nat} {ks : List Kd} {rows : Rows} (h : Ext x x' [slot] [40000 + t])
  (hms : ∀ off n c v, Rep x (.ms slot ks off n c) v → off + n ≤ lim → Rep x' (.sl false ks ((rows.drop off).take n) .no) v) {cs : List AV} {l : List Value} (hc : Cont x cs l) : Cont x' (AV.chillL slot t ks rows lim cs) l := by
 rcases hc with hc | ⟨kd, rs, rfl, hc⟩ | ⟨ag, kd, rs, rfl, hc⟩
 ·exact .inl (hc.chill h hms)
 ·exact .inr (.inl ⟨kd, rs, by simp [AV.chillL, AV.chill], hc.mono h.M⟩)
 ·rw [chillL_map]; exact Cont.mpMap (x := x) (MpMap.chill slot t ks rows lim) hc
theorem VirMap.chill (slot t : Nat) (ks : List Kd) (rows : Rows) (lim : Nat) : VirMap (AV.chill slot t ks rows lim) where
 a a h := by cases a <;> simp only [AV.chill] at h <;> first | exact h | (split at h <;> first | (split at h <;> cases h) | cases h) | cases h
 b a r h := by cases a <;> simp only [AV.chill] at h <;> first | (cases h; exact ⟨_, rfl⟩) | (split at h <;> first | (split at h <;> cases h) | cases h) | cases h
 c a v h := by cases a <;> simp only [AV.chill] at h <;> first | exact h | (split at h <;> first | (split at h <;> cases h) | cases h) | cases h
theorem virgin_chill {slot t : Nat} {ks : List Kd} {rows : Rows} {lim : Nat} {cs : List AV} (h : virgin (AV.chillL slot t ks rows lim cs) = true) : virgin cs = true := (VirMap.chill slot t ks rows lim).map (by rwa [chillL_map] at h)
theorem freeze_sound {t : Nat} {s : St} {x : X} {w : World} {a : Act} {k : St → Option R} (hs : StOk e x w s a) (h : freeze t s k = some res) :
  ∃ x' s', StOk e x' w s' a ∧ k s' = some res := by
 unfold freeze at h
 split at h
 ·rename_i slot ks off n c ht
  obtain ⟨v, hv, hr⟩ := hs.tmps.get ht
  cases hr with | ms _ _ _ _ _ b o c' hb g1 g2 g3 => ?_
  split at h
  ·rename_i ks2 rows hlk
   split at h
   ·rename_i hc
    simp only [Bool.and_eq_true, Nat.blt_eq] at hc
    obtain ⟨hks, hslot⟩ := hc
    obtain rfl := Kd.sameL_eq hks
    split at h
    ·rename_i hlen
     rw [chillMK_eq] at h
     have hI := hs.inv
     have hlk := lookupA_eq hlk
     obtain ⟨b', ty, arr, p1, p2, p3, p4, p5⟩ := hI.slot slot _ hlk
     rw [hb] at p1
     obtain rfl := Option.some.inj p1
     have hbase : e.w0.heap.size ≤ b := by rcases p2 with p2 | p2; exact p2; omega
     rw [objOf_cells (isMp_arr _ _)] at p3
     obtain ⟨arr', ty', q1, q2⟩ := hI.more.room slot b _ hlk rfl hb
     rw [p3] at q1
     cases q1
     obtain ⟨g3, g4, g5⟩ := g3
     have harr := p4.arr
     let M' : Mm := fun b' q => if b' = b ∧ q < (off + n) * ks.length then arr[q]? else x.M b' q
     have hsub : Sub x.M M' := by
      intro b' q u hu
      simp only [M']
      rw [if_neg]
      ·exact hu
      ·rintro ⟨rfl, _⟩; rw [p5] at hu; cases hu
     have hmul : (off + n) * ks.length = off * ks.length + n * ks.length := Nat.add_mul _ _ _
     have hd : RepD M' (.sl false ks ((rows.drop off).take n)) (.slice (some ⟨b, o, none⟩) n c') := by
      have hln : ((rows.drop off).take n).length = n := by rw [List.length_take, List.length_drop]; omega
      conv => rhs; rw [← hln]
      refine .sl ks _ ⟨b, o, none⟩ c' (by omega) (fun _ => rfl) ?_
      by_cases hn : n = 0
      ·subst hn; simpa using RowsAt.nil b o ks
      ·refine ((harr.drop off (by omega)).take n).rowsAt hsub fun q u hq hl => ?_
       rw [hln] at hq
       rw [List.getElem?_drop, Array.getElem?_toList] at hl
       have ho := g2 (by omega)
       simp only [M']
       rw [if_pos (by simp only [true_and]; omega), ho]; exact hl
     have hdn : ∀ off' n' c2 o2, off' + n' ≤ off + n → (0 < c2 → o2 = off' * ks.length) → n' ≤ c2 → RepD M' (.sl false ks ((rows.drop off').take n')) (.slice (some ⟨b, o2, none⟩) n' c2) := by
      intro off' n' c2 o2 hle ho2 hnc
      have hln : ((rows.drop off').take n').length = n' := by rw [List.length_take, List.length_drop]; omega
      conv => rhs; rw [← hln]
      refine .sl ks _ ⟨b, o2, none⟩ c2 (by omega) (fun _ => rfl) ?_
      by_cases hn : n' = 0
      ·subst hn; simpa using RowsAt.nil b o2 ks
      ·refine ((harr.drop off' (by omega)).take n').rowsAt hsub fun q u hq hl => ?_
       rw [hln] at hq
       rw [List.getElem?_drop, Array.getElem?_toList] at hl
       have ho := ho2 (by omega)
       simp only [M']
       have h1 : (off' + n') * ks.length ≤ (off + n) * ks.length := Nat.mul_le_mul_right _ hle
       rw [Nat.add_mul] at h1
       rw [if_pos (by simp only [true_and]; omega), ho]; exact hl
     let tk' : Nat → Option (Value × List Kd) := fun j => if j = 40000 + t then (match Nat.beq off 0 && !u8k ks with | true => some (.slice (some ⟨b, o, none⟩) n c', ks) | false => none) else x.tk j
     let x' : X := { x with M := M', tk := tk' }
     have hext : Ext x x' [slot] [40000 + t] := by
      refine ⟨hsub, fun _ _ _ h => h, fun j z hj hz => ?_, fun _ _ => rfl, rfl⟩
      have : j ≠ 40000 + t := fun e => by subst e; simp [mem] at hj
      simp only [x', tk', if_neg this]; exact hz
     have hms : ∀ off' n' c2 v', Rep x (.ms slot ks off' n' c2) v' → off' + n' ≤ off + n → Rep x' (.sl false ks ((rows.drop off').take n') .no) v' := by
      intro off' n' c2 v' hv' hle
      cases hv' with
      |ms _ _ _ _ _ b2 o2 c3 hb2 e1 e2 e3 =>
      rw [hb] at hb2
      cases hb2
      exact .sl _ _ _ _ _ (hdn off' n' c3 o2 hle e2 (by omega)) trivial
     have hntk : ∀ j u sz, tk' j = some (u, sz) → (j = 40000 + t ∧ (off = 0 ∧ u8k ks = false) ∧ u = .slice (some ⟨b, o, none⟩) n c' ∧ sz = ks) ∨ (j ≠ 40000 + t ∧ x.tk j = some (u, sz)) := by
      intro j u sz hj
      simp only [tk'] at hj
      split at hj
      ·rename_i hjt
       split at hj
       ·rename_i h0
        cases hj
        simp only [Bool.and_eq_true, Bool.not_eq_true'] at h0
        exact .inl ⟨hjt, ⟨beq_eq.1 h0.1, h0.2⟩, rfl, rfl⟩
       ·cases hj
      ·rename_i hjt; exact .inr ⟨hjt, hj⟩
     have hm : ∀ k cs, lookup (chillM slot t ks rows (off + n) (drop s.m slot)) k = some cs → k ≠ slot ∧ ∃ c0, lookup s.m k = some c0 ∧ cs = AV.chillL slot t ks rows (off + n) c0 := by
      intro k cs hk
      rw [lookup_chillM, lookup_drop] at hk
      split at hk
      ·simp at hk
      ·rename_i hks
       obtain ⟨c0, h0, h1⟩ := Option.map_eq_some_iff.1 hk
       exact ⟨hks, c0, h0, h1.symm⟩
     have hne : ∀ k c0 b', k ≠ slot → lookup s.m k = some c0 → x.loc k = some b' → b' ≠ b := fun k c0 b' h1 h2 h3 e => h1 (hI.inj k slot c0 _ b h2 hlk (by rw [h3, e]) hb)
     have htok : ∀ j a' n' c2 sz, x.tk j = some (.slice (some a') n' c2, sz) → 0 < c2 → a'.block ≠ b := fun j a' n' c2 sz h1 h2 e => hI.tokslot j a' n' c2 sz slot _ h1 h2 hlk (by rw [hb, e])
     have hM' : ∀ b' q, b' ≠ b → M' b' q = x.M b' q := fun b' q hbb => by simp only [M']; rw [if_neg fun h => hbb h.1]
     refine ⟨x', _, ⟨?_, ?_, hs.defers⟩, h⟩
     ·refine ⟨?_, ?_, ?_, ?_, ?_, ?_, hI.os, hI.tape, hI.output, hI.size, hI.old, hI.mono.trans hsub, ?_, hI.ext, hI.low, ?_, hI.glob⟩
      ·intro b' q u hu
       simp only [x', M'] at hu
       split at hu
       ·rename_i hbq
        obtain ⟨rfl, _⟩ := hbq
        simp only [World.cell?, p3]; exact hu
       ·exact hI.sub b' q u hu
      ·intro k cs hk
       obtain ⟨h1, c0, h0, rfl⟩ := hm k cs hk
       obtain ⟨b2, ty2, arr2, r1, r2, r3, r4, r5⟩ := hI.slot k c0 h0
       exact ⟨b2, ty2, arr2, r1, r2, by rw [objOf_congr (isMp_chill _ _ _ _ _ c0)]; exact r3, r4.chill hext hms, fun q => by show M' b2 q = none; rw [hM' b2 q (hne k c0 b2 h1 h0 r1)]; exact r5 q⟩
      ·intro k k' cs cs' b2 hk hk' hb2 hb2'
       obtain ⟨_, c0, h0, _⟩ := hm k cs hk
       obtain ⟨_, c1, h1, _⟩ := hm k' cs' hk'
       exact hI.inj k k' c0 c1 b2 h0 h1 hb2 hb2'
      ·intro j u sz hj a' n' c2 hu hpos
       rcases hntk j u sz hj with ⟨rfl, ⟨h0, hu8⟩, rfl, rfl⟩ | ⟨h1, h2⟩
       ·injection hu with e1 e2 e3
        injection e1 with e1
        subst e1; subst e2; subst e3; subst h0
        have ho := g2 hpos
        simp only [Nat.zero_mul] at ho
        refine ⟨arr, ty, ho, rfl, .inl hbase, p3, ⟨g5, fun h => by rw [hu8] at h; cases h⟩, by omega, fun q hq => ?_⟩
        simp only [x', M']
        rw [if_neg (by rintro ⟨_, h5⟩; rw [Nat.zero_add] at h5; omega)]
        exact p5 q
       ·obtain ⟨cur, ty2, r1, r2, r3, r4, r5, r6, r7⟩ := hI.tok j u sz h2 a' n' c2 hu hpos
        refine ⟨cur, ty2, r1, r2, r3, r4, r5, r6, fun q hq => ?_⟩
        show M' a'.block q = none
        rw [hM' _ q (htok j a' n' c2 sz (by rw [← hu]; exact h2) hpos)]; exact r7 q hq
      ·intro j a' n' c2 sz k cs hj hpos hk hl
       obtain ⟨h1, c0, h0, _⟩ := hm k cs hk
       rcases hntk j _ sz hj with ⟨_, _, hu, _⟩ | ⟨_, h2⟩
       ·injection hu with e1 e2 e3
        injection e1 with e1
        subst e1
        exact hne k c0 b h1 h0 hl rfl
       ·exact hI.tokslot j a' n' c2 sz k c0 h2 hpos h0 hl
      ·intro j j' a' n' c2 sz a2 n2 c3 sz2 hj hj' h1 h2 hab
       rcases hntk j _ sz hj with ⟨r1, _, hu, _⟩ | ⟨_, r2⟩
       ·rcases hntk j' _ sz2 hj' with ⟨r1', _, hu', _⟩ | ⟨_, r2'⟩
        ·rw [r1, r1']
        ·injection hu with e1 e2 e3
         injection e1 with e1
         subst e1
         exact absurd hab.symm (htok j' a2 n2 c3 sz2 r2' h2)
       ·rcases hntk j' _ sz2 hj' with ⟨r1', _, hu', _⟩ | ⟨_, r2'⟩
        ·injection hu' with e1 e2 e3
         injection e1 with e1
         subst e1
         exact absurd hab (htok j a' n' c2 sz r2 h1)
        ·exact hI.toktok j j' a' n' c2 sz a2 n2 c3 sz2 r2 r2' h1 h2 hab
      ·intro b' q u hu
       simp only [x', M'] at hu
       split at hu
       ·rename_i hbq
        obtain ⟨rfl, _⟩ := hbq
        exact .inr (.inl hbase)
       ·exact hI.new b' q u hu
      ·refine hI.more.step (fun k b2 cs hk hb2 => ?_) (fun b2 ar t2 hb2 => ⟨ar, hb2, Nat.le_refl _⟩) (fun _ _ => rfl) rfl (Nat.le_refl _)
       obtain ⟨_, c0, h0, hc⟩ := hm k cs hk
       exact ⟨c0, h0, hb2, rfl, fun hv => virgin_chill (hc ▸ hv), fun hv => by rw [hc, isMp_chill] at hv; exact hv⟩
     ·have hset := (hs.tmps.scrub hext).set t (a := .sl false ks ((rows.drop off).take n) (match Nat.beq off 0 && !u8k ks with | true => .tok (40000 + t) | false => .no)) (v := .slice (some ⟨b, o, none⟩) n c') (by
       refine .sl _ _ _ _ _ hd ?_
       split
       ·rename_i h0
        show tk' (40000 + t) = _
        simp only [tk', if_true, h0]
       ·trivial)
      rw [set_same hv] at hset
      exact hset
    ·cases h
   ·cases h
  ·cases h
 ·exact ⟨x, s, hs, h⟩
 ·cases h

theorem niled_sound {t : Nat} {s : St} {x : X} {w : World} {a : Act} {k : St → Option R} (hs : StOk e x w s a) (h : niled t s k = some res) :
  ∃ x' s', StOk e x' w s' a ∧ k s' = some res := by
 unfold niled at h
 split at h
 ·rename_i nl ks rows r ht
  obtain ⟨v, hv, hr⟩ := hs.tmps.get ht
  cases nl with
  |true =>
   have hset := hs.tmps.set t (a := .sl true ks [] .ex) (v := v) (by
    cases hr with
    |sl _ _ _ _ _ hd hrt =>
     cases hd with
     |nil => exact .sl _ _ _ _ _ (.nil ks) ⟨_, _, rfl⟩)
   rw [set_same hv] at hset
   exact ⟨x, ⟨s.t.set t (.sl true ks [] .ex), s.m⟩, ⟨hs.inv, hset, hs.defers⟩, h⟩
  |false =>
   have hset := hs.tmps.set t hr
   rw [set_same hv] at hset
   exact ⟨x, ⟨s.t.set t (.sl false ks rows r), s.m⟩, ⟨hs.inv, hset, hs.defers⟩, h⟩
 ·exact ⟨x, s, hs, h⟩
 ·cases h

theorem pre_sound0 (heL : e.L = []) {w : World} {a : Act} {k : St → Option R} : ∀ {l : List Nat} {s : St} {x : X}, StOk e x w s a → pre l s k = some res → ∃ x' s', StOk e x' w s' a ∧ k s' = some res
 |[], s, x, hs, h => ⟨x, s, hs, h⟩
 |0 :: t :: slot :: l, s, x, hs, h => by
  obtain ⟨x', s', hs', h'⟩ := thaw_sound heL hs h
  exact pre_sound0 heL hs' h'
 |1 :: t :: l, s, x, hs, h => by
  obtain ⟨x', s', hs', h'⟩ := freeze_sound hs h
  exact pre_sound0 heL hs' h'
 |2 :: t :: l, s, x, hs, h => by
  obtain ⟨x', s', hs', h'⟩ := niled_sound hs h
  exact pre_sound0 heL hs' h'
 |[0], s, x, hs, h => by cases h
 |[0, _], s, x, hs, h => by cases h
 |[1], s, x, hs, h => by cases h
 |[2], s, x, hs, h => by cases h
 |(n + 3) :: l, s, x, hs, h => by cases l <;> cases h
theorem pre_sound {w : World} {a : Act} {k : St → Option R} {l : List Nat} {s : St} {x : X} (hl : e.L = [] ∨ l = []) (hs : StOk e x w s a) (h : pre l s k = some res) : ∃ x' s', StOk e x' w s' a ∧ k s' = some res := by
 rcases hl with hl | hl
 ·exact pre_sound0 hl hs h
 ·subst hl; exact ⟨x, s, hs, h⟩

mutual
theorem Rep.olden {x : X} (h : x.M0 = x.M) : ∀ {a v}, Rep x a v → Rep x a.olden v
 |_, _, .dv d v hd => by unfold AV.olden; exact .dv d v hd
 |_, _, .sl n kd rows r v hd hr => by
  unfold AV.olden
  refine .sl n kd rows _ v hd ?_
  cases r with
  |no => show RepD x.M0 _ v; rw [h]; exact hd
  |ex => exact hr
  |tok k => exact hr
  |old => exact hr
 |_, _, .agg cs vs hl => by unfold AV.olden; exact .agg _ vs (RepL.olden h hl)
 |_, _, .tup cs vs hl => by unfold AV.olden; exact .tup _ vs (RepL.olden h hl)
 |_, _, .pl k off b hk => by unfold AV.olden; exact .pl k off b hk
 |_, _, .pv kd row off b o h1 h2 => by unfold AV.olden; exact .pv kd row off b o h1 h2
 |_, _, .fn f cs vs hl => by unfold AV.olden; exact .fn f _ vs (RepL.olden h hl)
 |_, _, .ifc t a v ha => by unfold AV.olden; exact .ifc t _ v (Rep.olden h ha)
 |_, _, .ms k kd off n c b o c' hk g1 g2 g3 => by unfold AV.olden; exact .ms k kd off n c b o c' hk g1 g2 g3
 |_, _, .pa k kd i j b hk => by unfold AV.olden; exact .pa k kd i j b hk
 |_, _, .junk v => by unfold AV.olden; exact .junk v
theorem RepL.olden {x : X} (h : x.M0 = x.M) : ∀ {l vs}, RepL x l vs → RepL x (AV.oldenL l) vs
 |_, _, .nil => by unfold AV.oldenL; exact .nil
 |_, _, .cons a v l vs ha hl => by unfold AV.oldenL; exact .cons _ _ _ _ (Rep.olden h ha) (RepL.olden h hl)
end
end Go.Den
namespace Go.Den
variable {e : Env} {R : Type} {res : R}

theorem RepL.setT {x : X} {l : List AV} {a : Act} (h : RepL x l a.tmps.toList) (d : Option Tmp) {r : AV} {v : Value} (hr : Rep x r v) : RepL x (setT l d r) (a.put d v).tmps.toList := by
 cases d with
 |none => exact h
 |some d => simp only [Den.setT, Act.put, Array.toList_setIfInBounds]; exact h.set d hr

theorem StOk.apply {x x' : X} {w w' : World} {s : St} {a : Act} (h : StOk e x w s a) {eff : Eff} {v : Value} (ha : After e x x' w' s.m v eff) (d : Option Tmp) : StOk e x' w' (s.apply d eff) (a.put d v) := by
 have hdef : (a.put d v).defers = e.D := by cases d <;> exact h.defers
 cases eff with
 |pure r => exact ⟨ha.2.1, (h.tmps.mono ha.2.2).setT d ha.1, hdef⟩
 |full r p ks wr => exact ⟨ha.2.1, (h.tmps.scrub ha.2.2).setT d ha.1, hdef⟩
theorem StOk.apply_none {x x' : X} {w w' : World} {s : St} {a : Act} (h : StOk e x w s a) {eff : Eff} {v : Value} (ha : After e x x' w' s.m v eff) : StOk e x' w' (s.apply none eff) a ∧ Rep x' eff.val v := by
 refine ⟨h.apply ha none, ?_⟩
 cases eff with
 |pure r => exact ha.1
 |full r p ks wr => exact ha.1

def PanOk (e : Env) (kp : AV → St → Option R) (res : R) (Q : Exit → Act → World → Prop) : Prop :=
 ∀ v s' x' w' a' u, kp v s' = some res → StOk e x' w' s' a' → Rep x' v u → Q (.panic [{ v := u, recovered := false }]) a' w'

theorem step_sound {Φ : Orc} (hΦ : OSound e.P Φ) {o : Oper} {x : X} {w : World} {s : St} {a : Act} {k : St → Option R} {kp : AV → St → Option R} {next : Act → World → Prop} {Q : Exit → Act → World → Prop}
  (hs : StOk e x w s a) (h : stepE e.P Φ o s k kp = some res) (hk : ∀ s' x' w' a', k s' = some res → StOk e x' w' s' a' → next a' w') (hkp : PanOk e kp res Q) : o.wp e.P a w next Q := by
 unfold stepE at h
 refine op_sound hΦ hs.inv hs.tmps ?_ ?_ h
 ·intro eff x' w' v hk' ha
  exact hk _ x' w' _ hk' (hs.apply ha o.dst)
 ·intro eff x' w' v hk' ha
  obtain ⟨h1, h2⟩ := hs.apply_none ha
  exact hkp _ _ x' w' a v hk' h1 h2

theorem guardTmp_get : ∀ (l : List Oper) (j : Nat), guardTmp l j = (l[j]?).bind (·.dst)
 |[], j => by simp [guardTmp]
 |o :: l, 0 => by simp [guardTmp]
 |o :: l, j + 1 => by simp [guardTmp, guardTmp_get l j]

theorem StOk.setB {x : X} {w : World} {s : St} {a : Act} (h : StOk e x w s a) {d : Nat} {b : Bool} (hd : s.t[d]? = some (.dv (.val (.bool b)))) : StOk e x w { t := s.t.set d (.B b), m := s.m } a ∧ a.tmps[d]? = some (.bool b) := by
 obtain ⟨v, hv, hr⟩ := h.tmps.get hd
 obtain rfl := Rep.val hr
 refine ⟨⟨h.inv, ?_, h.defers⟩, by rw [← Array.getElem?_toList]; exact hv⟩
 have := h.tmps.set d (rep_val x (v := .bool b) rfl)
 have e1 : a.tmps.toList.set d (.bool b) = a.tmps.toList := by
  apply List.ext_getElem?
  intro i
  by_cases hi : d = i
  ·subst hi
   have hlt : d < a.tmps.toList.length := (List.getElem?_eq_some_iff.1 hv).1
   rw [List.getElem?_set_self hlt, hv]
  ·rw [List.getElem?_set_ne hi]
 rw [e1] at this
 exact this

theorem reg_sound {Φ : Orc} (hΦ : OSound e.P Φ) (lv : Live) (hlv : e.L = [] ∨ ∀ id, prep lv id = []) (ops : Array Oper) {k : St → Option R} {kp : AV → St → Option R} {Q : Exit → Act → World → Prop}
  (hk : ∀ s' x' w' a', k s' = some res → StOk e x' w' s' a' → Q .normal a' w') (hkp : PanOk e kp res Q) :
  ∀ (l : List Oper) (i : Nat), (∀ j, l[j]? = ops[i + j]?) → ∀ (s : St) (x : X) (w : World) (a : Act), StOk e x w s a → regE e.P Φ lv ops.toList l s k kp = some res → wpOps e.P ops Q (List.range' i l.length) a w
 |[], i, _, s, x, w, a, hs, h => by
  simp only [regE] at h
  exact hk s x w a h hs
 |o :: l, i, hl, s, x, w, a, hs, h => by
  have ho : ops[i]? = some o := by have := hl 0; simpa using this.symm
  have ih := reg_sound hΦ lv hlv ops hk hkp l (i + 1) (fun j => by have := hl (j + 1); simp only [List.getElem?_cons_succ] at this; rw [this]; congr 1; omega)
  rw [List.length_cons, List.range'_succ, wpOps_cons]
  simp only [wpOp, ho]
  simp only [regE] at h
  obtain ⟨x, s, hs, h⟩ := pre_sound (hlv.elim .inl fun h => .inr (by unfold opPrep; split <;> first | exact h _ | rfl)) hs h
  unfold reg1 at h
  split at h
  ·rename_i hg
   have hw : Region.wanted o (yielded ops a.tmps) = true := by simp [Region.wanted, hg]
   rw [if_pos hw]
   exact .inl (step_sound hΦ hs h (fun s' x' w' a' h1 h2 => ih s' x' w' a' h2 h1) hkp)
  ·rename_i j want hg
   split at h
   ·cases h
   ·rename_i d hd
    split at h
    ·rename_i b hb
     obtain ⟨hs', hv⟩ := hs.setB hb
     have hy : yielded ops a.tmps j = some b := by
      rw [guardTmp_get, Array.getElem?_toList] at hd
      simp [yielded, hd, hv]
     have hwant : Region.wanted o (yielded ops a.tmps) = (b == want) := by
      simp only [Region.wanted, hg, hy]
      cases b <;> cases want <;> rfl
     rw [hwant]
     cases b <;> cases want
     ·simp only at h
      rw [if_pos (by decide)]
      exact .inl (step_sound hΦ hs' h (fun s' x' w' a' h1 h2 => ih s' x' w' a' h2 h1) hkp)
     ·simp only at h
      rw [if_neg (by decide)]
      exact ih { t := setT (s.t.set d (.B false)) o.dst (.tup []), m := s.m } x w _ ⟨hs'.inv, hs'.tmps.setT o.dst (.tup [] [] .nil), by cases o.dst <;> exact hs'.defers⟩ h
     ·simp only at h
      rw [if_neg (by decide)]
      exact ih { t := setT (s.t.set d (.B true)) o.dst (.tup []), m := s.m } x w _ ⟨hs'.inv, hs'.tmps.setT o.dst (.tup [] [] .nil), by cases o.dst <;> exact hs'.defers⟩ h
     ·simp only at h
      rw [if_pos (by decide)]
      exact .inl (step_sound hΦ hs' h (fun s' x' w' a' h1 h2 => ih s' x' w' a' h2 h1) hkp)
    ·rename_i hb
     obtain ⟨v, hv, hr⟩ := hs.tmps.get hb
     have hv' : v = undef := by cases hr with | tup _ _ hl => cases hl; rfl
     subst hv'
     have hy : yielded ops a.tmps j = none := by
      rw [guardTmp_get, Array.getElem?_toList] at hd
      rw [Array.getElem?_toList] at hv
      simp [yielded, hd, hv, undef]
     have hwant : Region.wanted o (yielded ops a.tmps) = false := by
      simp [Region.wanted, hg, hy]
     rw [hwant, if_neg (by decide)]
     exact ih { t := setT s.t o.dst (.tup []), m := s.m } x w _ ⟨hs.inv, hs.tmps.setT o.dst (.tup [] [] .nil), by cases o.dst <;> exact hs.defers⟩ h
    ·cases h

inductive ExRel (x : X) : Ex → Exit → Prop
 |normal : ExRel x .normal .normal
 |exit (id : Nat) : ExRel x (.exit id) (.exit id)
 |ret : ExRel x .ret .ret
 |pan (v : AV) (u : Value) : Rep x v u → ExRel x (.pan v) (.panic [{ v := u, recovered := false }])

def KOk (e : Env) (K : Ex → St → Option R) (res : R) (Q : Exit → Act → World → Prop) : Prop :=
 ∀ ex E s x w a, K ex s = some res → StOk e x w s a → ExRel x ex E → Q E a w

theorem reg_code {Φ : Orc} (hΦ : OSound e.P Φ) {lv : Live} (hlv : e.L = [] ∨ ∀ id, prep lv id = []) {id : Nat} {ops : Array Oper} {K : Ex → St → Option R} {Q : Exit → Act → World → Prop} (hK : KOk e K res Q) {s : St} {x : X} {w : World} {a : Act} (hs : StOk e x w s a)
  (h : regE e.P Φ lv ops.toList ops.toList s (fun s => K .normal s) (fun v s => K (.pan v) s) = some res) : (Code.region id ops false).wp e.P Q a w := by
 refine wp_region ?_
 rw [List.range_eq_range', ← Array.length_toList]
 exact reg_sound hΦ lv hlv ops (fun s' x' w' a' h1 h2 => hK .normal .normal s' x' w' a' h1 h2 .normal) (fun v s' x' w' a' u h1 h2 h3 => hK (.pan v) _ s' x' w' a' h1 h2 (.pan v u h3)) ops.toList 0 (fun j => by simp) s x w a hs h

theorem RepL.keep {x : X} (tl : List Nat) : ∀ {l vs}, RepL x l vs → ∀ i, RepL x (keepT tl i l) vs
 |_, _, .nil, i => .nil
 |_, _, .cons a v l vs ha hl, i => by
  simp only [keepT]
  refine .cons _ _ _ _ ?_ (RepL.keep tl hl (i + 1))
  split
  ·exact ha
  ·exact .junk v
theorem memTok_mem : ∀ {m : Mem} {q : Nat} {cs : List AV} {i : Nat} {a : AV} {k : Nat}, lookup m q = some cs → cs[i]? = some a → k ∈ a.topTok → k ∈ memToks m
 |[], q, cs, i, a, k, h, _, _ => by simp [lookup] at h
 |(j, ds) :: m, q, cs, i, a, k, h, hi, hk => by
  simp only [lookup, beq_eq] at h
  simp only [memToks, List.mem_append]
  split at h
  ·cases h; exact .inl (top_mem hi hk)
  ·exact .inr (memTok_mem h hi hk)
theorem mem_unique : ∀ {m : Mem}, (memToks m).Nodup → ∀ {q q' : Nat} {cs cs' : List AV} {i j : Nat} {a b : AV} {k : Nat}, lookup m q = some cs → lookup m q' = some cs' → cs[i]? = some a → cs'[j]? = some b → k ∈ a.topTok → k ∈ b.topTok → q = q' ∧ i = j
 |[], _, q, q', cs, cs', i, j, a, b, k, h, _, _, _, _, _ => by simp [lookup] at h
 |(p, ds) :: m, hn, q, q', cs, cs', i, j, a, b, k, h, h', hi, hj, ha, hb => by
  simp only [memToks] at hn
  obtain ⟨h1, h2, h3⟩ := List.nodup_append.1 hn
  simp only [lookup, beq_eq] at h h'
  split at h
  ·rename_i hp
   cases h
   split at h'
   ·rename_i hp'
    cases h'
    exact ⟨by rw [← hp, ← hp'], top_unique h1 hi hj ha hb⟩
   ·exact absurd rfl (h3 k (top_mem hi ha) k (memTok_mem h' hj hb))
  ·split at h'
   ·cases h'
    exact absurd rfl (h3 k (top_mem hj hb) k (memTok_mem h hi ha))
   ·exact mem_unique h2 h h' hi hj ha hb

theorem lookup_keepM (ml : List Nat) : ∀ (m : Mem) (k : Nat), lookup (keepM ml m) k = if mem k ml then lookup m k else none
 |[], k => by simp [keepM, lookup]
 |(j, cs) :: m, k => by
  simp only [keepM]
  split
  ·rename_i hj
   simp only [lookup, beq_eq, lookup_keepM ml m k]
   by_cases h : j = k
   ·subst h; simp [hj]
   ·simp [h]
  ·rename_i hj
   rw [lookup_keepM ml m k]
   simp only [lookup, beq_eq]
   by_cases h : j = k
   ·subst h; simp [hj]
   ·simp [h]
theorem deadM_mem (ml : List Nat) : ∀ (m : Mem) (k : Nat), mem k ml = true → mem k (deadM ml m) = false
 |[], k, _ => rfl
 |(j, cs) :: m, k, h => by
  simp only [deadM]
  split
  ·exact deadM_mem ml m k h
  ·rename_i hj
   simp only [mem, Bool.or_eq_false_iff]
   refine ⟨?_, deadM_mem ml m k h⟩
   cases hb : Nat.beq j k with
   |false => rfl
   |true => rw [beq_eq.1 hb] at hj; exact absurd h hj
theorem lookup_retokM : ∀ (m : Mem) (k : Nat), lookup (retokM m) k = (lookup m k).map (retokL (20000 + 64 * k))
 |[], k => rfl
 |(j, cs) :: m, k => by
  simp only [retokM, lookup, beq_eq, lookup_retokM m k]
  by_cases h : j = k
  ·subst h; simp
  ·simp [h]
theorem shortM_get : ∀ {m : Mem}, shortM m = true → ∀ {k : Nat} {cs : List AV}, lookup m k = some cs → cs.length ≤ 64
 |[], _, k, cs, h => by simp [lookup] at h
 |(j, ds) :: m, hs, k, cs, h => by
  simp only [shortM, Bool.and_eq_true, Nat.ble_eq] at hs
  simp only [lookup, beq_eq] at h
  split at h
  ·cases h; exact hs.1
  ·exact shortM_get hs.2 h

def heldM (m : Mem) (loc : Nat → Option Nat) (w : World) (j : Nat) : Option (Value × List Kd) :=
 match lookup m (j / 64), loc (j / 64) with
 |some cs, some b => match cs[j % 64]?, w.cell? ⟨b, j % 64, none⟩ with
  |some (.sl _ ks rows .ex), some v => match rows.isEmpty with | true => some (v, ks) | false => none
  |some (.sl _ ks _ (.tok _)), some v => some (v, ks)
  |_, _ => none
 |_, _ => none

theorem retokL_rep {x x' : X} (hM : x'.M = x.M) (hl : x'.loc = x.loc ∧ x'.cap = x.cap ∧ x'.M0 = x.M0) : ∀ {l : List AV} {vs : List Value}, RepL x l vs → ∀ (j : Nat), (∀ (i : Nat) (n : Bool) (ks : List Kd) (rows : Rows) (r : Right) (v : Value), l[i]? = some (.sl n ks rows r) → vs[i]? = some v → r.held rows = true → x'.tk (j + i) = some (v, ks)) → RepL x' (retokL j l) vs
 |_, _, .nil, j, _ => .nil
 |_, _, .cons a v l vs ha h, j, hk => by
  simp only [retokL]
  refine .cons _ _ _ _ ?_ (retokL_rep hM hl h (j + 1) fun i n ks rows r u h1 h2 h3 => by have := hk (i + 1) n ks rows r u (by simpa using h1) (by simpa using h2) h3; rw [← this]; congr 1; omega)
  cases ha with
  |sl n kd rows r _ hd hr =>
   simp only [AV.retok]
   refine .sl n kd rows _ v (by rw [hM]; exact hd) ?_
   cases r with
   |no => trivial
   |ex =>
    simp only [Right.retok]
    cases he : rows.isEmpty with
    |true => exact hk 0 n kd rows .ex v rfl rfl he
    |false => trivial
   |tok k => exact hk 0 n kd rows (.tok k) v rfl rfl rfl
   |old => show RepD x'.M0 _ v; rw [hl.2.2]; exact hr
  |dv d _ h1 => exact Rep.bare hM hl (.dv d v h1)
  |agg cs us h1 => exact Rep.bare hM hl (.agg cs us h1)
  |tup cs us h1 => exact Rep.bare hM hl (.tup cs us h1)
  |pl k off b h1 => exact Rep.bare hM hl (.pl k off b h1)
  |pv kd row off b o h1 h2 => exact Rep.bare hM hl (.pv kd row off b o h1 h2)
  |fn f cs us h1 => exact Rep.bare hM hl (.fn f cs us h1)
  |ifc t a u h1 => exact Rep.bare hM hl (.ifc t a u h1)
  |ms k kd off n c b o c' h1 g1 g2 g3 => exact Rep.bare hM hl (.ms k kd off n c b o c' h1 g1 g2 g3)
  |pa k kd i j b h1 => exact Rep.bare hM hl (.pa k kd i j b h1)
  |junk _ => exact Rep.bare hM hl (.junk v)

theorem VirMap.retok (j : Nat) : VirMap (AV.retok j) where
 a a h := by
  cases a with
  |sl => cases h
  |_ => exact VirMap.bare.a _ h
 b a r h := by
  cases a with
  |sl n kd rows r' => simp only [AV.retok] at h; cases h; exact ⟨_, rfl⟩
  |_ => exact VirMap.bare.b _ _ h
 c a v h := by
  cases a with
  |sl => cases h
  |_ => exact VirMap.bare.c _ _ h
theorem MpMap.retok (j : Nat) : MpMap (AV.retok j) where
 tag ag := by cases ag <;> rfl
 arr ls rows := ⟨_, rfl⟩
 flat ls rows h := rfl
 tag' a ag h := by
  cases a with
  |sl => cases ag <;> cases h
  |_ => exact MpMap.bare.tag' _ _ h
 arr' a ls rows h := by
  cases a with
  |sl => cases h
  |_ => exact MpMap.bare.arr' _ _ _ h
theorem isMp_retok (j : Nat) (cs : List AV) : isMp (retokL j cs) = isMp cs := by
 rcases cs with _ | ⟨a, _ | ⟨b, _ | ⟨c, l⟩⟩⟩
 ·rfl
 ·rw [isMp_one]; exact isMp_one _
 ·exact isMp_two (MpMap.retok j) (MpMap.retok (j + 1)) a b
 ·rw [isMp_three]; exact isMp_three _ _ _ _
theorem virgin_retok {j : Nat} {cs : List AV} (h : virgin (retokL j cs) = true) : virgin cs = true := by
 obtain ⟨r, v, h⟩ := virgin_iff.1 h
 rcases cs with _ | ⟨a, _ | ⟨b, _ | ⟨c, _ | ⟨d, cs⟩⟩⟩⟩
 ·cases h
 ·simp [retokL] at h
 ·simp [retokL] at h
 ·simp only [retokL, List.cons.injEq, and_true] at h
  obtain ⟨h1, h2, h3⟩ := h
  obtain ⟨r', rfl⟩ := (VirMap.retok _).b _ _ h2
  rw [(VirMap.retok _).a _ h1, (VirMap.retok _).c _ _ h3]; rfl
 ·simp [retokL] at h
theorem retok_sound {t : List AV} {m : Mem} {x : X} {w : World} {a : Act} (hs : StOk e x w { t := t, m := m } a) (hn : nodup (topToks t ++ memToks m) = true) (hlen : t.length ≤ 1000) (hshort : shortM m = true) :
  ∃ x', StOk e x' w { t := retokL 0 t, m := retokM m } a := by
 obtain ⟨hI, hT, hdef⟩ := hs
 simp only at hI hT
 obtain ⟨hn1, hn2, hn3⟩ := List.nodup_append.1 (nodup_iff hn)
 let x' : X := { x with tk := fun j => if j < 1000 then heldT t a.tmps j else if 20000 ≤ j then heldM m x.loc w (j - 20000) else none }
 -- where a token of x' comes from
 have hfromT : ∀ j v sz, heldT t a.tmps j = some (v, sz) → ∃ n ks rows r, t[j]? = some (.sl n ks rows r) ∧ Rep x (.sl n ks rows r) v ∧ sz = ks ∧ r.held rows = true := by
  intro j v sz h
  unfold heldT at h
  split at h
  ·rename_i n ks rows hj
   obtain ⟨u, hu, hr⟩ := hT.get hj
   have : a.tmps.getD j undef = u := by rw [Array.getElem?_toList] at hu; rw [Array.getD_eq_getD_getElem?, hu]; rfl
   rw [this] at h
   split at h
   ·rename_i he
    cases h
    exact ⟨n, _, rows, _, hj, hr, rfl, he⟩
   ·cases h
  ·rename_i n ks rows k hj
   obtain ⟨u, hu, hr⟩ := hT.get hj
   have : a.tmps.getD j undef = u := by rw [Array.getElem?_toList] at hu; rw [Array.getD_eq_getD_getElem?, hu]; rfl
   rw [this] at h
   cases h
   exact ⟨n, _, rows, _, hj, hr, rfl, rfl⟩
  ·cases h
 have hfromM : ∀ j v sz, heldM m x.loc w j = some (v, sz) → ∃ cs n ks rows r, lookup m (j / 64) = some cs ∧ cs[j % 64]? = some (.sl n ks rows r) ∧ Rep x (.sl n ks rows r) v ∧ sz = ks ∧ r.held rows = true := by
  intro j v sz h
  unfold heldM at h
  split at h
  ·rename_i cs b hcs hb
   obtain ⟨b', ty, arr, h1, _, h3, h4, _⟩ := hI.slot _ cs hcs
   rw [hb] at h1
   obtain rfl := Option.some.inj h1
   split at h
   ·rename_i n ks rows v' hc hv
    obtain ⟨u, hu, hr⟩ := h4.get hc
    rw [objOf_cells (notMp_sl hc)] at h3
    have : w.cell? ⟨b, j % 64, none⟩ = some u := by rw [Array.getElem?_toList] at hu; simp [World.cell?, h3, hu]
    rw [this] at hv
    cases hv
    split at h
    ·rename_i he
     cases h
     exact ⟨cs, n, _, rows, _, hcs, hc, hr, rfl, he⟩
    ·cases h
   ·rename_i n ks rows k v' hc hv
    obtain ⟨u, hu, hr⟩ := h4.get hc
    rw [objOf_cells (notMp_sl hc)] at h3
    have : w.cell? ⟨b, j % 64, none⟩ = some u := by rw [Array.getElem?_toList] at hu; simp [World.cell?, h3, hu]
    rw [this] at hv
    cases hv; cases h
    exact ⟨cs, n, _, rows, _, hcs, hc, hr, rfl, rfl⟩
   ·cases h
  ·cases h
 -- one origin: a right, held at one place
 have horig : ∀ j v sz, x'.tk j = some (v, sz) → ∃ r d, (r = .ex → ∀ a n c, v = .slice (some a) n c → ¬ 0 < c) ∧ (r ≠ .no ∧ r ≠ .old) ∧ RtOk x r d v sz ∧ ((j < 1000 ∧ ∃ b, t[j]? = some b ∧ ∀ k, r = .tok k → k ∈ b.topTok) ∨ (20000 ≤ j ∧ ∃ cs b, lookup m ((j - 20000) / 64) = some cs ∧ cs[(j - 20000) % 64]? = some b ∧ ∀ k, r = .tok k → k ∈ b.topTok)) := by
  intro j v sz h
  simp only [x'] at h
  split at h
  ·rename_i hj
   obtain ⟨n, ks, rows, r, h1, h2, rfl, h4⟩ := hfromT j v sz h
   cases h2 with
   |sl _ _ _ _ _ hd hr => exact ⟨r, _, ex_room hd hr h4, held_ne h4, hr, .inl ⟨hj, _, h1, fun k hk => by subst hk; simp [AV.topTok, Right.toks]⟩⟩
  ·split at h
   ·rename_i hj
    obtain ⟨cs, n, ks, rows, r, h0, h1, h2, rfl, h4⟩ := hfromM _ v sz h
    cases h2 with
    |sl _ _ _ _ _ hd hr => exact ⟨r, _, ex_room hd hr h4, held_ne h4, hr, .inr ⟨hj, cs, _, h0, h1, fun k hk => by subst hk; simp [AV.topTok, Right.toks]⟩⟩
   ·cases h
 have hkeep : ∀ {l : List AV} {vs : List Value} (j0 : Nat), RepL x l vs → (∀ (i : Nat) (n : Bool) (ks : List Kd) (rows : Rows) (r : Right) (v : Value), l[i]? = some (.sl n ks rows r) → vs[i]? = some v → r.held rows = true → x'.tk (j0 + i) = some (v, ks)) → RepL x' (retokL j0 l) vs :=
  fun j0 h hk => retokL_rep (x := x) (x' := x') rfl ⟨rfl, rfl, rfl⟩ h j0 hk
 have hI' : Inv e x' w (retokM m) := by
  refine ⟨hI.sub, ?_, ?_, ?_, ?_, ?_, hI.os, hI.tape, hI.output, hI.size, hI.old, hI.mono, hI.new, hI.ext, hI.low, hI.more.step (fun k b cs hk hb => by
   rw [lookup_retokM] at hk
   obtain ⟨c0, h0, hc⟩ := Option.map_eq_some_iff.1 hk
   exact ⟨c0, h0, hb, rfl, fun hv => virgin_retok (hc ▸ hv), fun hv => by rw [← hc, isMp_retok] at hv; exact hv⟩) (fun b arr ty hb => ⟨arr, hb, Nat.le_refl _⟩) (fun _ _ => rfl) rfl (Nat.le_refl _), hI.glob⟩
  ·intro k cs hk
   rw [lookup_retokM] at hk
   obtain ⟨c0, h0, rfl⟩ := Option.map_eq_some_iff.1 hk
   obtain ⟨b, ty, arr, h1, h2, h3, h4, h5⟩ := hI.slot k c0 h0
   refine ⟨b, ty, arr, h1, h2, by rw [objOf_congr (isMp_retok _ c0)]; exact h3, ?_, h5⟩
   rcases h4 with h4 | ⟨kd, rows, rfl, h4⟩ | ⟨ag, kd, rows, rfl, h4⟩
   case inr.inl => exact .inr (.inl ⟨kd, rows, by simp [retokL, AV.retok, AV.bare], h4⟩)
   case inr.inr => exact .inr (.inr ⟨ag, kd, rows, by cases ag <;> rfl, h4⟩)
   refine .inl (hkeep _ h4 ?_)
   intro i n ks rows r v hi hv hr
   have hlt : i < 64 := by
    have h6 := shortM_get hshort h0
    have h7 : i < c0.length := (List.getElem?_eq_some_iff.1 hi).1
    omega
   simp only [x']
   rw [if_neg (by omega), if_pos (by omega)]
   have e1 : 20000 + 64 * k + i - 20000 = 64 * k + i := by omega
   rw [e1]
   have e2 : (64 * k + i) / 64 = k := by omega
   have e3 : (64 * k + i) % 64 = i := by omega
   rw [objOf_cells (notMp_sl hi)] at h3
   have hcell : w.cell? ⟨b, i, none⟩ = some v := by rw [Array.getElem?_toList] at hv; simp [World.cell?, h3, hv]
   unfold heldM
   rw [e2, e3, h0, h1]
   simp only [hi, hcell]
   cases r with
   |no => cases hr
   |old => cases hr
   |ex => simp only [Right.held] at hr; simp only [hr]
   |tok k => rfl
  ·intro k k' cs cs' b hk hk' hb hb'
   rw [lookup_retokM] at hk hk'
   obtain ⟨c0, h0, _⟩ := Option.map_eq_some_iff.1 hk
   obtain ⟨c1, h1, _⟩ := Option.map_eq_some_iff.1 hk'
   exact hI.inj k k' c0 c1 b h0 h1 hb hb'
  ·intro j v sz hj ad n c hv hlt
   obtain ⟨r, d, hr0, hr1, hr2, _⟩ := horig j v sz hj
   cases r with
   |no => exact absurd rfl hr1.1
   |old => exact absurd rfl hr1.2
   |ex => exact absurd hlt (hr0 rfl ad n c hv)
   |tok k => exact hI.tok k v sz hr2 ad n c hv hlt
  ·intro j ad n c sz q cs hj hlt hq
   rw [lookup_retokM] at hq
   obtain ⟨c0, h0, _⟩ := Option.map_eq_some_iff.1 hq
   obtain ⟨r, d, hr0, hr1, hr2, _⟩ := horig j _ sz hj
   cases r with
   |no => exact absurd rfl hr1.1
   |old => exact absurd rfl hr1.2
   |ex => exact absurd hlt (hr0 rfl ad n c rfl)
   |tok k => exact hI.tokslot k ad n c sz q c0 hr2 hlt h0
  ·intro j j' ad n c sz ad' n' c' sz' hj hj' hlt hlt' hab
   obtain ⟨r, d, hr0, hr1, hr2, hp⟩ := horig j _ sz hj
   obtain ⟨r', d', hr0', hr1', hr2', hp'⟩ := horig j' _ sz' hj'
   cases r with
   |no => exact absurd rfl hr1.1
   |old => exact absurd rfl hr1.2
   |ex => exact absurd hlt (hr0 rfl ad n c rfl)
   |tok k =>
    cases r' with
    |no => exact absurd rfl hr1'.1
    |old => exact absurd rfl hr1'.2
    |ex => exact absurd hlt' (hr0' rfl ad' n' c' rfl)
    |tok k' =>
     have hkk := hI.toktok k k' ad n c sz ad' n' c' sz' hr2 hr2' hlt hlt' hab
     subst hkk
     rcases hp with ⟨g1, b1, g2, g3⟩ | ⟨g1, cs1, b1, g2, g3, g4⟩
     ·rcases hp' with ⟨g1', b1', g2', g3'⟩ | ⟨g1', cs1', b1', g2', g3', g4'⟩
      ·exact top_unique hn1 g2 g2' (g3 k rfl) (g3' k rfl)
      ·exact absurd rfl (hn3 k (top_mem g2 (g3 k rfl)) k (memTok_mem g2' g3' (g4' k rfl)))
     ·rcases hp' with ⟨g1', b1', g2', g3'⟩ | ⟨g1', cs1', b1', g2', g3', g4'⟩
      ·exact absurd rfl (hn3 k (top_mem g2' (g3' k rfl)) k (memTok_mem g2 g3 (g4 k rfl)))
      ·obtain ⟨e1, e2⟩ := mem_unique hn2 g2 g2' g3 g3' (g4 k rfl) (g4' k rfl)
       omega
 refine ⟨x', hI', hkeep 0 hT ?_, hdef⟩
 intro i n ks rows r v hi hv hr
 have hlt : i < t.length := (List.getElem?_eq_some_iff.1 hi).1
 simp only [x', Nat.zero_add]
 rw [if_pos (by omega)]
 have : a.tmps.getD i undef = v := by rw [Array.getElem?_toList] at hv; rw [Array.getD_eq_getD_getElem?, hv]; rfl
 unfold heldT
 rw [hi, this]
 cases r with
 |no => cases hr
 |old => cases hr
 |ex => simp only [Right.held] at hr; simp only [hr]
 |tok k => rfl

theorem norm_sound {tl ml : List Nat} {s s' : St} {x : X} {w : World} {a : Act} (hs : StOk e x w s a) (h : norm tl ml s = some s') : ∃ x', StOk e x' w s' a := by
 unfold norm at h
 simp only at h
 split at h
 ·rename_i hc
  cases h
  simp only [Bool.and_eq_true, Nat.ble_eq] at hc
  refine retok_sound (x := x) ⟨?_, ?_, hs.defers⟩ hc.1.1 hc.1.2 hc.2
  ·refine hs.inv.forget (p := deadM ml s.m) (ks := []) (Ext.refl _ _ _) rfl (fun _ _ h => h) (fun _ _ => rfl) (fun _ _ => rfl) ?_ hs.inv.tok hs.inv.tokslot hs.inv.toktok
   intro k cs hk
   rw [lookup_scrubM, lookup_keepM] at hk
   obtain ⟨c0, h0, h1⟩ := Option.map_eq_some_iff.1 hk
   split at h0
   ·rename_i hm
    exact ⟨deadM_mem ml s.m k hm, c0, h0, h1.symm⟩
   ·cases h0
  ·exact (hs.tmps.keep tl 0).scrub (Ext.refl _ _ _)
 ·cases h

theorem loop_sound {tl ml : List Nat} {q : Nat} {c : Code} {body : (Ex → St → Option R) → St → Option R}
  (hbody : ∀ (K : Ex → St → Option R) (Q : Exit → Act → World → Prop), KOk e K res Q → ∀ s x w a, StOk e x w s a → body K s = some res → c.wp e.P Q a w)
  {K : Ex → St → Option R} {Q : Exit → Act → World → Prop} (hK : KOk e K res Q) (n : Nat) {s : St} {x : X} {w : World} {a : Act} (hs : StOk e x w s a) (h : loopE q tl ml body n K s = some res) : (Code.loop c).wp e.P Q a w := by
 refine wp_loop_ghost (fun n a w => ∃ s x, StOk e x w s a ∧ loopE q tl ml body n K s = some res) n ⟨s, x, hs, h⟩ ?_
 rintro n a w ⟨s, x, hs, h⟩
 cases n with
 |zero => simp [loopE] at h
 |succ n =>
  simp only [loopE] at h
  refine hbody _ _ ?_ s x w a hs h
  intro ex E s' x' w' a' hk hs' hex
  cases hex with
  |normal =>
   simp only at hk
   split at hk
   ·rename_i s'' hn
    obtain ⟨x'', hs''⟩ := norm_sound hs' hn
    exact ⟨n, Nat.lt_succ_self n, s'', x'', hs'', hk⟩
   ·cases hk
  |exit id => exact hK _ _ s' x' w' a' hk hs' (.exit id)
  |ret => exact hK _ _ s' x' w' a' hk hs' .ret
  |pan v u hr => exact hK _ _ s' x' w' a' hk hs' (.pan v u hr)

theorem evB {x : X} {w : World} {s : St} {a : Act} (hs : StOk e x w s a) {c : Operand} {b : Bool} (h : evT e.P s.t 0 c = some (.dv (.val (.bool b)))) : a.eval c = .bool b := Rep.val (evT_rep hs.tmps h)

theorem den_sound {Φ : Orc} (hΦ : OSound e.P Φ)
  (hdraw : ∀ (id : Nat) (ops : Array Oper) (K : Ex → St → Option R) (Q : Exit → Act → World → Prop), KOk e K res Q → ∀ s x w a, StOk e x w s a → regA e.P Φ (fun v s => K (.pan v) s) ops.toList s (fun s => K .normal s) = some res → (Code.region id ops true).wp e.P Q a w)
  (lv : Live) (hlv : e.L = [] ∨ ∀ id, prep lv id = []) (n : Nat) : ∀ (c : Code) (K : Ex → St → Option R) (Q : Exit → Act → World → Prop), KOk e K res Q → ∀ s x w a, StOk e x w s a → den e.P Φ lv n c K s = some res → c.wp e.P Q a w := by
 intro c
 induction c with
 |skip => intro K Q hK s x w a hs h; exact Go.wp_skip (hK _ _ s x w a h hs .normal)
 |region id ops draw =>
  intro K Q hK s x w a hs h
  simp only [den, St.force_eq] at h
  obtain ⟨x, s, hs, h⟩ := pre_sound (hlv.elim .inl fun h => .inr (h id)) hs h
  cases draw with
  |false => exact reg_code hΦ hlv hK hs h
  |true =>
   exact hdraw id ops K Q hK s x w a hs h
 |seq c d ihc ihd =>
  intro K Q hK s x w a hs h
  simp only [den] at h
  refine Go.wp_seq (ihc _ _ ?_ s x w a hs h)
  intro ex E s' x' w' a' hk hs' hex
  cases hex with
  |normal => exact ihd K Q hK s' x' w' a' hs' hk
  |exit id => exact hK _ _ s' x' w' a' hk hs' (.exit id)
  |ret => exact hK _ _ s' x' w' a' hk hs' .ret
  |pan v u hr => exact hK _ _ s' x' w' a' hk hs' (.pan v u hr)
 |cond c d f ihd ihf =>
  intro K Q hK s x w a hs h
  simp only [den] at h
  split at h
  ·rename_i b hb
   have hc := evB hs hb
   cases b with
   |true => exact wp_cond_true hc (ihd K Q hK s x w a hs h)
   |false => exact wp_cond_false hc (ihf K Q hK s x w a hs h)
  ·cases h
 |block id c ih =>
  intro K Q hK s x w a hs h
  simp only [den] at h
  refine wp_block (ih _ _ ?_ s x w a hs h)
  intro ex E s' x' w' a' hk hs' hex
  cases hex with
  |normal => exact hK _ _ s' x' w' a' hk hs' .normal
  |exit j =>
   simp only [Exit.inBlock]
   simp only [beq_eq] at hk
   by_cases hj : j = id
   ·rw [if_pos hj] at hk ⊢; exact hK _ _ s' x' w' a' hk hs' .normal
   ·rw [if_neg hj] at hk ⊢; exact hK _ _ s' x' w' a' hk hs' (.exit j)
  |ret => exact hK _ _ s' x' w' a' hk hs' .ret
  |pan v u hr => exact hK _ _ s' x' w' a' hk hs' (.pan v u hr)
 |loop c ih =>
  intro K Q hK s x w a hs h
  simp only [den] at h
  split at h
  ·rename_i tl ml hlv
   split at h
   ·rename_i s' hn
    obtain ⟨x', hs'⟩ := norm_sound hs hn
    exact loop_sound (fun K Q hK s x w a hs h => ih K Q hK s x w a hs h) hK n hs' h
   ·cases h
  ·cases h
 |exit id => intro K Q hK s x w a hs h; exact wp_exit (hK _ _ s x w a h hs (.exit id))
 |ret =>
  intro K Q hK s x w a hs h
  simp only [den] at h
  obtain ⟨x, s, hs, h⟩ := pre_sound (hlv.elim .inl fun h => .inr (h 999998)) hs h
  exact wp_ret (hK _ _ s x w a h hs .ret)
 |rangeFunc => intro K Q hK s x w a hs h; simp [den] at h
 |scope c ih =>
  intro K Q hK s x w a hs h
  simp only [den] at h
  refine wp_scope_straight (ih K _ ?_ s x w a hs h)
  intro ex E s' x' w' a' hk hs' hex
  have := hK _ _ s' x' w' a' hk hs' hex
  cases hex with
  |normal => exact this
  |exit j => exact this
  |ret => exact this
  |pan v u hr => exact this
 |label l => intro K Q hK s x w a hs h; exact Go.wp_label (hK _ _ s x w a h hs .normal)
 |goto => intro K Q hK s x w a hs h; simp [den] at h
 |refuse => intro K Q hK s x w a hs h; simp [den] at h
end Go.Den
namespace Go.Den
variable {e : Env} {R : Type} {res : R}

theorem Inv.bare {x : X} {w : World} {m m' : Mem} (h : Inv e x w m) (tk' : Nat → Option (Value × List Kd))
  (hm : ∀ k cs, lookup m' k = some cs → ∃ c0, lookup m k = some c0 ∧ cs = AV.bareL c0)
  (htok : ∀ k v sz, tk' k = some (v, sz) → TokOk e x w v sz)
  (htokslot : ∀ k a n c sz j cs, tk' k = some (.slice (some a) n c, sz) → 0 < c → lookup m j = some cs → x.loc j ≠ some a.block)
  (htoktok : ∀ k k' a n c sz a' n' c' sz', tk' k = some (.slice (some a) n c, sz) → tk' k' = some (.slice (some a') n' c', sz') → 0 < c → 0 < c' → a.block = a'.block → k = k') :
  Inv e { x with tk := tk' } w m' where
 sub := h.sub
 slot k cs hk := by
  obtain ⟨c0, h0, rfl⟩ := hm k cs hk
  obtain ⟨b, ty, arr, h1, h2, h3, h4, h5⟩ := h.slot k c0 h0
  exact ⟨b, ty, arr, h1, h2, by rw [objOf_congr (isMp_bare c0)]; exact h3, h4.bare (x := x) (x' := { x with tk := tk' }) rfl ⟨rfl, rfl, rfl⟩, h5⟩
 inj k k' cs cs' b hk hk' hb hb' := by
  obtain ⟨c0, h0, _⟩ := hm k cs hk
  obtain ⟨c1, h1, _⟩ := hm k' cs' hk'
  exact h.inj k k' c0 c1 b h0 h1 hb hb'
 tok := htok
 tokslot k a n c sz j cs hk hn hj hl := by
  obtain ⟨c0, h0, _⟩ := hm j cs hj
  exact htokslot k a n c sz j c0 hk hn h0 hl
 toktok := htoktok
 os := h.os
 tape := h.tape
 output := h.output
 size := h.size
 old := h.old
 mono := h.mono
 new := h.new
 ext := h.ext
 low := h.low
 glob := h.glob
 more := h.more.step (fun k b cs hk hb => by
  obtain ⟨c0, h0, hc⟩ := hm k cs hk
  exact ⟨c0, h0, hb, rfl, fun hv => virgin_bare (hc ▸ hv), fun hv => by rw [hc, isMp_bare] at hv; exact hv⟩) (fun b arr ty hb => ⟨arr, hb, Nat.le_refl _⟩) (fun _ _ => rfl) rfl (Nat.le_refl _)

theorem results_held {avs : List AV} {vs : List Value} {m m' : Mem} {x : X} {w : World} (hI : Inv e x w m) (hT : RepL x avs vs) (hn : nodup (topToks avs) = true)
  (hm : ∀ k cs, lookup m' k = some cs → ∃ c0, lookup m k = some c0 ∧ cs = AV.bareL c0) :
  ∃ tk', Inv e { x with tk := tk' } w m' ∧ RepL { x with tk := tk' } (retokL 0 avs) vs := by
 have hn1 := nodup_iff hn
 have hfrom : ∀ j v sz, heldT avs ⟨vs⟩ j = some (v, sz) → ∃ r d, (r = .ex → ∀ a n c, v = .slice (some a) n c → ¬ 0 < c) ∧ (r ≠ .no ∧ r ≠ .old) ∧ RtOk x r d v sz ∧ ∃ b, avs[j]? = some b ∧ ∀ k, r = .tok k → k ∈ b.topTok := by
  intro j v sz h
  unfold heldT at h
  split at h
  ·rename_i n ks rows hj
   obtain ⟨u, hu, hr⟩ := hT.get hj
   have : (⟨vs⟩ : Array Value).getD j undef = u := by rw [Array.getD_eq_getD_getElem?]; simp [hu]
   rw [this] at h
   split at h
   ·rename_i he
    cases h
    cases hr with
    |sl _ _ _ _ _ hd hr => exact ⟨.ex, _, ex_room hd hr he, by simp, hr, _, hj, fun k hk => by cases hk⟩
   ·cases h
  ·rename_i n ks rows k hj
   obtain ⟨u, hu, hr⟩ := hT.get hj
   have : (⟨vs⟩ : Array Value).getD j undef = u := by rw [Array.getD_eq_getD_getElem?]; simp [hu]
   rw [this] at h
   cases h
   cases hr with
   |sl _ _ _ _ _ _ hr => exact ⟨.tok k, _, fun h => (by cases h), by simp, hr, _, hj, fun q hq => by cases hq; simp [AV.topTok, Right.toks]⟩
  ·cases h
 refine ⟨heldT avs ⟨vs⟩, hI.bare _ hm ?_ ?_ ?_, retokL_rep (x := x) (x' := { x with tk := heldT avs ⟨vs⟩ }) rfl ⟨rfl, rfl, rfl⟩ hT 0 ?_⟩
 ·intro j v sz hj ad n c hv hlt
  obtain ⟨r, d, hr0, hr1, hr2, _⟩ := hfrom j v sz hj
  cases r with
  |no => exact absurd rfl hr1.1
  |old => exact absurd rfl hr1.2
  |ex => exact absurd hlt (hr0 rfl ad n c hv)
  |tok k => exact hI.tok k v sz hr2 ad n c hv hlt
 ·intro j ad n c sz q cs hj hlt hq
  obtain ⟨r, d, hr0, hr1, hr2, _⟩ := hfrom j _ sz hj
  cases r with
  |no => exact absurd rfl hr1.1
  |old => exact absurd rfl hr1.2
  |ex => exact absurd hlt (hr0 rfl ad n c rfl)
  |tok k => exact hI.tokslot k ad n c sz q cs hr2 hlt hq
 ·intro j j' ad n c sz ad' n' c' sz' hj hj' hlt hlt' hab
  obtain ⟨r, d, hr0, hr1, hr2, b, hb, hb2⟩ := hfrom j _ sz hj
  obtain ⟨r', d', hr0', hr1', hr2', b', hb', hb2'⟩ := hfrom j' _ sz' hj'
  cases r with
  |no => exact absurd rfl hr1.1
  |old => exact absurd rfl hr1.2
  |ex => exact absurd hlt (hr0 rfl ad n c rfl)
  |tok k =>
   cases r' with
   |no => exact absurd rfl hr1'.1
   |old => exact absurd rfl hr1'.2
   |ex => exact absurd hlt' (hr0' rfl ad' n' c' rfl)
   |tok k' =>
    have hkk := hI.toktok k k' ad n c sz ad' n' c' sz' hr2 hr2' hlt hlt' hab
    subst hkk
    exact top_unique hn1 hb hb' (hb2 k rfl) (hb2' k rfl)
 ·intro i n ks rows r v hi hv hr
  simp only [Nat.zero_add]
  have : (⟨vs⟩ : Array Value).getD i undef = v := by rw [Array.getD_eq_getD_getElem?]; simp [hv]
  unfold heldT
  rw [hi, this]
  cases r with
  |no => cases hr
  |old => cases hr
  |ex => simp only [Right.held] at hr; simp only [hr]
  |tok k => rfl

theorem extOf_get {m : Mem} : ∀ {ext : List (List AV)} {i : Nat} {r : List (List AV)}, extOf m i ext = some r → r.length = ext.length ∧ ∀ (q : Nat) (cs : List AV), r[q]? = some cs → ∃ c0, lookup m (i + q) = some c0 ∧ cs = AV.bareL c0
 |[], i, r, h => by simp only [extOf, Option.some.injEq] at h; subst h; simp
 |c :: ext, i, r, h => by
  simp only [extOf] at h
  split at h
  ·rename_i cs hcs
   split at h
   ·rename_i r0 hr0
    cases h
    obtain ⟨h1, h2⟩ := extOf_get hr0
    refine ⟨by simp [h1], ?_⟩
    intro q cs' hq
    cases q with
    |zero => simp at hq; subst hq; exact ⟨cs, hcs, rfl⟩
    |succ q =>
     simp at hq
     obtain ⟨c0, h3, h4⟩ := h2 q cs' hq
     exact ⟨c0, by rw [← h3]; congr 1; omega, h4⟩
   ·cases h
  ·cases h
theorem ext_bare {m : Mem} {ext r : List (List AV)} (h : extOf m 1000 ext = some r) : ∀ k cs, lookup (zipExt 1000 r) k = some cs → ∃ c0, lookup m k = some c0 ∧ cs = AV.bareL c0 := by
 intro k cs hk
 rw [lookup_zipExt] at hk
 split at hk
 ·rename_i hle
  obtain ⟨q, rfl⟩ : ∃ q, k = 1000 + q := ⟨k - 1000, by omega⟩
  rw [Nat.add_sub_cancel_left] at hk
  exact (extOf_get h).2 q cs hk
 ·cases hk

theorem res_sound {P : Program} (hP : e.P = P) {x : X} {w : World} {s : St} {a : Act} (hs : StOk e x w s a) :
  ∀ {l : List ResultVar} {k : List AV → Option R}, resE P s l k = some res → ∃ avs vs, k avs = some res ∧ RepL x avs vs ∧
   (l.mapM (fun | .tmp t => pure (a.tmps.getD t undef) | .cell b t => do loadVar t (← asAddr (a.tmps.getD b undef)) : ResultVar → Sem Value)).run P w = .ok vs w
 |[], k, h => ⟨[], [], h, .nil, by simp⟩
 | .tmp t :: l, k, h => by
  simp only [resE] at h
  split at h
  ·rename_i v hv
   obtain ⟨u, hu, hr⟩ := hs.tmps.get hv
   obtain ⟨avs, vs, h1, h2, h3⟩ := res_sound hP hs h
   refine ⟨v :: avs, u :: vs, h1, .cons _ _ _ _ hr h2, ?_⟩
   have : a.tmps.getD t undef = u := by rw [Array.getElem?_toList] at hu; rw [Array.getD_eq_getD_getElem?, hu]; rfl
   simp only [List.mapM_cons, Sem.run_bind, Sem.run_pure, Result.andThen_ok, h3, this]
  ·cases h
 | .cell b t :: l, k, h => by
  subst hP
  simp only [resE] at h
  split at h
  ·rename_i v hv
   obtain ⟨u, hu, hr⟩ := hs.tmps.get hv
   obtain ⟨r, z, h1, h2, h3⟩ := load_sound hs.inv hr h
   obtain ⟨avs, vs, h4, h5, h6⟩ := res_sound rfl hs h1
   refine ⟨r :: avs, z :: vs, h4, .cons _ _ _ _ h2 h5, ?_⟩
   have : a.tmps.getD b undef = u := by rw [Array.getElem?_toList] at hu; rw [Array.getD_eq_getD_getElem?, hu]; rfl
   have hload : (do loadVar t (← asAddr u) : Sem Value).run e.P w = .ok z w := by
    simp only [Instr.loadAt] at h3
    cases u with
    |pointer p =>
     cases p with
     |some ad => simpa [Instr.sureAddr, asAddr] using h3
     |none => simp [Instr.sureAddr, stuck] at h3
    |_ => simp [Instr.sureAddr, stuck] at h3
   simp only [List.mapM_cons, Sem.run_bind] at hload ⊢
   rw [this, hload]
   simp only [Result.andThen_ok, h6, Sem.run_pure]
  ·cases h

theorem youngL_length : ∀ l : List AV, (youngL l).length = l.length
 |[] => rfl
 |a :: l => by simp [youngL, youngL_length l]
theorem Rep.young {x : X} {a : AV} {v : Value} (h : Rep x a v) : Rep x a.young v := by
 unfold AV.young
 split
 ·cases h with
  |sl _ _ _ _ _ h1 _ => exact .sl _ _ _ _ _ h1 trivial
 ·exact h
theorem RepL.young {x : X} : ∀ {l : List AV} {vs : List Value}, RepL x l vs → RepL x (youngL l) vs
 |_, _, .nil => .nil
 |_, _, .cons a v l vs ha hl => .cons _ _ _ _ ha.young (RepL.young hl)
theorem canon_sound {avs : List AV} {vs : List Value} {m m' : Mem} {x : X} {w : World} {keep : Bool} {r : AV} (hI : Inv e x w m) (hT : RepL x avs vs) (h : canon keep avs = some r)
  (hm : ∀ k cs, lookup m' k = some cs → ∃ c0, lookup m k = some c0 ∧ cs = AV.bareL c0) :
  ∃ x', Inv e x' w m' ∧ Rep x' r (if h : (⟨vs⟩ : Array Value).size = 1 then (⟨vs⟩ : Array Value)[0] else .tuple ⟨vs⟩) := by
 have hfin : ∀ (x' : X) (l : List AV), RepL x' l vs → l.length = avs.length → ∀ r, (match l with | [v] => some v | l => some (.tup l)) = some r → Rep x' r (if h : (⟨vs⟩ : Array Value).size = 1 then (⟨vs⟩ : Array Value)[0] else .tuple ⟨vs⟩) := by
  intro x' l hl _ r hr
  have hlen := hl.length
  split at hr
  ·rename_i v
   cases hr
   cases hl with
   |cons _ u _ vs2 h1 h2 =>
   cases h2
   simpa using h1
  ·rename_i hne
   cases hr
   have : ¬ (⟨vs⟩ : Array Value).size = 1 := by
    intro h1
    have : l.length = 1 := by rw [hlen]; simpa using h1
    obtain ⟨v, rfl⟩ := List.length_eq_one_iff.1 this
    exact hne v rfl
   rw [dif_neg this]
   exact .tup _ _ hl
 unfold canon at h
 split at h
 ·split at h
  ·rename_i cs
   split at h
   ·rename_i hn
    cases h
    cases hT with
    |cons _ v _ vs2 h1 h2 =>
    cases h2
    cases h1 with
    |agg _ us h1 =>
    obtain ⟨tk', h3, h4⟩ := results_held hI h1.young hn hm
    exact ⟨_, h3, by simpa using Rep.agg _ _ h4⟩
   ·cases h
  ·split at h
   ·rename_i hn
    have hT := hT.young
    obtain ⟨tk', h1, h2⟩ := results_held hI hT hn hm
    refine ⟨_, h1, hfin _ (retokL 0 (youngL avs)) h2 (by rw [h2.length, ← hT.length]; exact youngL_length avs) r ?_⟩
    generalize youngL avs = avs' at h
    split at h
    ·simpa [retokL] using h
    ·rename_i hne
     split
     ·rename_i v hv
      cases avs' with
      |nil => simp [retokL] at hv
      |cons b t =>
       cases t with
       |nil => exact absurd rfl (hne b)
       |cons c t => simp [retokL] at hv
     ·exact h
   ·cases h
 ·refine ⟨{ x with tk := fun _ => none }, hI.bare _ hm (fun _ _ _ h => by cases h) (fun _ _ _ _ _ _ _ h => by cases h) (fun _ _ _ _ _ _ _ _ _ _ h => by cases h), hfin _ (AV.bareL avs) (hT.bare (x := x) (x' := { x with tk := fun _ => none }) rfl ⟨rfl, rfl, rfl⟩) (by rw [(hT.bare (x := x) (x' := { x with tk := fun _ => none }) rfl ⟨rfl, rfl, rfl⟩).length, hT.length]) r ?_⟩
  split at h
  ·simpa [AV.bareL] using h
  ·rename_i hne
   split
   ·rename_i v hv
    cases avs with
    |nil => simp [AV.bareL] at hv
    |cons b t =>
     cases t with
     |nil => exact absurd rfl (hne b)
     |cons c t => simp [AV.bareL] at hv
   ·exact h

theorem Inv.refill {x : X} {w : World} {m m' : Mem} (h : Inv e x w m)
  (hm : ∀ k cs, lookup m' k = some cs → ∃ c0, lookup m k = some c0 ∧ ((virgin cs = true → virgin c0 = true) ∧ isMp cs = isMp c0) ∧ ∀ b ty arr, x.loc k = some b → w.heap[b]? = some (objOf c0 arr ty) → Cont x c0 arr.toList → Cont x cs arr.toList) : Inv e x w m' where
 sub := h.sub
 slot k cs hk := by
  obtain ⟨c0, h0, hv, hc⟩ := hm k cs hk
  obtain ⟨b, ty, arr, h1, h2, h3, h4, h5⟩ := h.slot k c0 h0
  exact ⟨b, ty, arr, h1, h2, by rw [objOf_congr hv.2]; exact h3, hc b ty arr h1 h3 h4, h5⟩
 inj k k' cs cs' b hk hk' hb hb' := by
  obtain ⟨c0, h0, _⟩ := hm k cs hk
  obtain ⟨c1, h1, _⟩ := hm k' cs' hk'
  exact h.inj k k' c0 c1 b h0 h1 hb hb'
 tok := h.tok
 tokslot k a n c sz j cs hk hn hj hl := by
  obtain ⟨c0, h0, _⟩ := hm j cs hj
  exact h.tokslot k a n c sz j c0 hk hn h0 hl
 toktok := h.toktok
 os := h.os
 tape := h.tape
 output := h.output
 size := h.size
 old := h.old
 mono := h.mono
 new := h.new
 ext := h.ext
 low := h.low
 glob := h.glob
 more := h.more.step (fun k b cs hk hb => by
  obtain ⟨c0, h0, hv, _⟩ := hm k cs hk
  exact ⟨c0, h0, hb, rfl, hv.1, fun hmp => by rw [hv.2] at hmp; exact hmp⟩) (fun b arr ty hb => ⟨arr, hb, Nat.le_refl _⟩) (fun _ _ => rfl) rfl (Nat.le_refl _)
theorem canon_bare {avs : List AV} {vs : List Value} {x : X} {r : AV} (hT : RepL x avs vs) (h : canon false avs = some r) (tk' : Nat → Option (Value × List Kd)) : Rep { x with tk := tk' } r (if h : (⟨vs⟩ : Array Value).size = 1 then (⟨vs⟩ : Array Value)[0] else .tuple ⟨vs⟩) := by
 have hB : RepL { x with tk := tk' } (AV.bareL avs) vs := hT.bare (x := x) (x' := { x with tk := tk' }) rfl ⟨rfl, rfl, rfl⟩
 unfold canon at h
 simp only at h
 split at h
 ·rename_i v
  cases h
  cases hB with
  |cons _ u _ vs2 h1 h2 =>
  cases h2
  simpa using h1
 ·rename_i hne
  cases h
  have : ¬ (⟨vs⟩ : Array Value).size = 1 := by
   intro h1
   have : avs.length = 1 := by rw [hT.length]; simpa using h1
   obtain ⟨v, rfl⟩ := List.length_eq_one_iff.1 this
   exact hne v rfl
  rw [dif_neg this]
  exact .tup _ _ hB
theorem exit_sound {avs : List AV} {vs : List Value} {m : Mem} {x : X} {w : World} {keep : Bool} {r : AV} {ext ex : List (List AV)} (hI : Inv e x w m) (hT : RepL x avs vs) (h : canon (keep && !lentX ext) avs = some r) (hex : extX m ext = some ex) :
  ex.length = ext.length ∧ ∃ x', Inv e x' w (zipExt 1000 ex) ∧ Rep x' r (if h : (⟨vs⟩ : Array Value).size = 1 then (⟨vs⟩ : Array Value)[0] else .tuple ⟨vs⟩) := by
 unfold extX at hex
 cases hl : lentX ext with
 |false =>
  simp only [hl] at hex
  exact ⟨(extOf_get hex).1, canon_sound hI hT h (ext_bare hex)⟩
 |true =>
  simp only [hl] at hex
  split at hex
  ·rename_i c e0 cs hlk
   split at hex
   ·rename_i r0 hc hr0
    cases hex
    rw [Bool.and_eq_true] at hc
    have hex0 : extOf m 1000 (c :: e0) = some (AV.bareL cs :: r0) := by simp only [extOf, hlk, hr0]
    have hb := ext_bare hex0
    have hlen := (extOf_get hex0).1
    obtain ⟨b, ty, arr, p1, p2, p3, p4, p5⟩ := hI.slot 1000 cs hlk
    obtain ⟨tk', h3, h4⟩ := results_held hI (p4.plain hc.1) hc.2 hb
    refine ⟨by simpa using hlen, { x with tk := tk' }, h3.refill ?_, ?_⟩
    ·intro k cs' hk
     rw [lookup_zipExt] at hk
     split at hk
     ·rename_i hle
      by_cases hk0 : k = 1000
      ·subst hk0
       simp only [Nat.sub_self, List.getElem?_cons_zero, Option.some.injEq] at hk
       subst hk
       refine ⟨AV.bareL cs, by rw [lookup_zipExt, if_pos (Nat.le_refl _)]; simp, ⟨fun hv => ?_, by rw [isMp_retok, isMp_bare]⟩, fun b' ty' arr' q1 q2 _ => ?_⟩
       ·obtain ⟨r1, v1, rfl⟩ := virgin_iff.1 (virgin_retok hv)
        rfl
       ·have q1 : x.loc 1000 = some b' := q1
        rw [p1] at q1; cases q1
        rw [objOf_congr (isMp_bare cs)] at q2
        have hmp := plain_notMp hc.1
        rw [objOf_cells hmp] at q2 p3
        rw [p3] at q2; cases q2
        exact .inl h4
      ·obtain ⟨q, rfl⟩ : ∃ q, k = 1000 + (q + 1) := ⟨k - 1001, by omega⟩
       rw [Nat.add_sub_cancel_left] at hk
       exact ⟨cs', by rw [lookup_zipExt, if_pos hle, Nat.add_sub_cancel_left]; simpa using hk, ⟨id, rfl⟩, fun _ _ _ _ _ hc => hc⟩
     ·cases hk
    ·have hbare : canon false avs = some r := by rw [hl] at h; simpa using h
     exact canon_bare hT hbare tk'
   ·cases hex
  ·cases hex
theorem anyPrep_none {lv : Live} (h : anyPrep lv = false) (id : Nat) : prep lv id = [] := by
 have : live lv (1000000 + id) = none := by
  induction lv with
  |nil => rfl
  |cons z l ih =>
   obtain ⟨j, y⟩ := z
   simp only [anyPrep, Bool.or_eq_false_iff] at h
   simp only [live, beq_eq]
   have hj : j ≠ 1000000 + id := by
    rintro rfl
    have := h.1
    rw [show Nat.ble 1000000 (1000000 + id) = true by simp [Nat.ble_eq]] at this; cases this
   rw [if_neg hj]; exact ih h.2
 simp only [prep, this]
theorem fn_sound {P : Program} {Φ : Orc} (hΦ : OSound P Φ)
  (hdraw : ∀ (e : Env), e.P = P → ∀ (id : Nat) (ops : Array Oper) (K : Ex → St → Option Out) (res : Out) (Q : Exit → Act → World → Prop), KOk e K res Q → ∀ s x w a, StOk e x w s a → regA e.P Φ (fun v s => K (.pan v) s) ops.toList s (fun s => K .normal s) = some res → (Code.region id ops true).wp e.P Q a w)
  {f : FuncId} {fn : Func} (hf : P.funcs[f]? = some fn) (hname : fn.name ≠ "runtime.NumGoroutine") {lv : Live} {n : Nat} {keep : Bool} {args : List AV} {ext : List (List AV)} {out : Out}
  (h : denFn P Φ lv n fn keep args ext some = some out) : Contract P f args ext out := by
 unfold denFn at h
 split at h
 ·cases h
 ·rename_i c hc
  split at h
  ·rename_i hle
   refine ⟨⟨fn, hf, by simp [hc], hname⟩, ?_⟩
   simp only [Bool.and_eq_true, Bool.not_eq_true', Bool.and_eq_false_iff] at hle
   intro w x E L vs htk hI hr
   have hlv : L = [] ∨ ∀ id, prep lv id = [] := by
    rcases hle.2 with h1 | h1
    ·exact .inl (htk h1).1
    ·exact .inr (anyPrep_none h1)
   refine calls_of_wp hf hc ?_
   refine den_sound (e := ⟨P, w, x, E, [], L⟩) hΦ (fun id ops K Q h1 => hdraw ⟨P, w, x, E, [], L⟩ rfl id ops K out Q h1) lv hlv n c _ _ ?_ _ x w _ ⟨hI, ?_, rfl⟩ h
   ·intro ex En s1 x1 w1 a1 hk hs1 hex
    unfold fin at hk
    cases hex with
    |exit id => simp at hk
    |pan v u hv =>
     simp only at hk
     split at hk
     ·rename_i ex hex
      cases hk
      obtain ⟨e1, x', h4, h5⟩ := exit_sound (keep := false) (r := v.bare) hs1.inv (.cons v u [] [] hv .nil) rfl hex
      exact ⟨hs1.defers, x', u, e1, rfl, h4, by simpa using h5⟩
     ·cases hk
    |normal =>
     simp only at hk
     obtain ⟨avs, us, h1, h2, h3⟩ := res_sound (e := ⟨P, w, x, E, [], L⟩) rfl hs1 hk
     split at h1
     ·rename_i r ex hr' hex
      cases h1
      obtain ⟨e1, x', h4, h5⟩ := exit_sound hs1.inv h2 hr' hex
      refine ⟨hs1.defers, _, ?_, x', _, e1, rfl, h4, h5⟩
      unfold results
      simp only [Sem.run_bind, Array.mapM_eq_mapM_toList, Sem.run_map]
      erw [h3]
      rfl
     ·cases h1
    |ret =>
     simp only at hk
     obtain ⟨avs, us, h1, h2, h3⟩ := res_sound (e := ⟨P, w, x, E, [], L⟩) rfl hs1 hk
     split at h1
     ·rename_i r ex hr' hex
      cases h1
      obtain ⟨e1, x', h4, h5⟩ := exit_sound hs1.inv h2 hr' hex
      refine ⟨hs1.defers, _, ?_, x', _, e1, rfl, h4, h5⟩
      unfold results
      simp only [Sem.run_bind, Array.mapM_eq_mapM_toList, Sem.run_map]
      erw [h3]
      rfl
     ·cases h1
   ·have h1 := hr.length
    have hgo : ∀ as : List AV, RepL x as vs → RepL x (as ++ List.replicate (fn.ntmps - args.length) .junk) (vs ++ List.replicate (fn.ntmps - vs.length) undef) := by
     intro as has
     rw [h1]; exact has.append (RepL.junks x _ undef)
    cases hl : live lv 999999 with
    |none => simpa [hl] using hgo args hr
    |some z => simpa [hl] using hgo _ (hr.olden hI.more.M0)
  ·cases h
end Go.Den
namespace Go.Den
variable {P : Program} {Φ : Orc} {R : Type}

def AlikeAt (P : Program) (t t' : List AV) (ys : List Operand) : Prop := ∀ y ∈ ys, ∀ ty, evT P t ty y = evT P t' ty y

theorem evs_congr {t t' : List AV} : ∀ {ys : List Operand} {ts : List TypeId}, AlikeAt P t t' ys → evs P t ts ys = evs P t' ts ys
 |[], ts, _ => by cases ts <;> rfl
 |y :: ys, [], h => by simp only [evs]; rw [h y (by simp), evs_congr fun z hz => h z (by simp [hz])]
 |y :: ys, t0 :: ts, h => by simp only [evs]; rw [h y (by simp), evs_congr fun z hz => h z (by simp [hz])]
theorem parts_congr {t t' : List AV} {ty : TypeId} : ∀ {ps : List (Nat × Operand)} {cs : List AV}, AlikeAt P t t' (ps.map (·.2)) → parts P ty t ps cs = parts P ty t' ps cs
 |[], cs, _ => rfl
 |(i, y) :: ps, cs, h => by
  simp only [parts]
  split
  ·rename_i off n ty' hp
   rw [h y (by simp)]
   split
   ·split
    ·split
     ·exact parts_congr fun z hz => h z (by simp only [List.map_cons, List.mem_cons]; exact .inr hz)
     ·rfl
    ·rfl
   ·rfl
  ·rfl
theorem rowsOf_congr {t t' : List AV} {el : TypeId} {ks : List Kd} : ∀ {ps : List (Nat × Operand)} {rs : Rows}, AlikeAt P t t' (ps.map (·.2)) → rowsOf P el ks t ps rs = rowsOf P el ks t' ps rs
 |[], rs, _ => rfl
 |(i, y) :: ps, rs, h => by
  simp only [rowsOf]
  rw [h y (by simp)]
  split
  ·split
   ·split
    ·exact rowsOf_congr fun z hz => h z (by simp only [List.map_cons, List.mem_cons]; exact .inr hz)
    ·rfl
   ·rfl
  ·rfl
theorem evO_congr {t t' : List AV} {y : Option Operand} (h : ∀ z, y = some z → ∀ ty, evT P t ty z = evT P t' ty z) : evO P t y = evO P t' y := by
 cases y with
 |none => rfl
 |some z => simp only [evO]; rw [h z rfl]
theorem cellsOf_congr {m m' : Mem} {qs : List Nat} : ∀ {ks : List Nat}, (∀ k ∈ ks, lookup m k = lookup m' k) → cellsOf m qs ks = cellsOf m' qs ks
 |[], _ => rfl
 |k :: ks, h => by simp only [cellsOf]; rw [h k (by simp), cellsOf_congr fun j hj => h j (by simp [hj])]
theorem catM_congr {m m' : Mem} : ∀ {ks : List Nat}, (∀ k ∈ ks, lookup m k = lookup m' k) → catM m ks = catM m' ks
 |[], _ => rfl
 |k :: ks, h => by simp only [catM]; rw [h k (by simp), catM_congr fun j hj => h j (by simp [hj])]
theorem lendOf_congr {m m' : Mem} {qs : List Nat} : ∀ {ks : List Nat} (i : Nat), (∀ k ∈ ks, lookup m k = lookup m' k) → lendOf m qs i ks = lendOf m' qs i ks
 |[], _, _ => rfl
 |k :: ks, i, h => by
  have ih := fun i => lendOf_congr (qs := qs) (ks := ks) i fun j hj => h j (by simp [hj])
  simp only [lendOf, ih]; rw [h k (by simp)]
def ptrSlot : AV → Option Nat
 | .pl j _ => some j
 | .pa j _ _ _ => some j
 |_ => none
theorem lookupC_congr {m m' : Mem} {j : Nat} (h : lookup m j = lookup m' j) : lookupC m j = lookupC m' j := by unfold lookupC; rw [h]
theorem lookupA_congr {m m' : Mem} {j : Nat} (h : lookup m j = lookup m' j) : lookupA m j = lookupA m' j := by unfold lookupA; rw [h]
theorem loadE_congr {m m' : Mem} {t : TypeId} {a : AV} {k : Eff → Option R} (h : ∀ j, ptrSlot a = some j → lookup m j = lookup m' j) : loadE P m t a k = loadE P m' t a k := by
 cases a with
 |pl j off => simp only [loadE]; rw [lookupC_congr (h j rfl)]
 |pa j ks i q => simp only [loadE]; rw [lookupA_congr (h j rfl)]
 |_ => rfl
theorem storeE_congr {m m' : Mem} {t : TypeId} {a v : AV} {k : Eff → Option R} (h : ∀ j, ptrSlot a = some j → lookup m j = lookup m' j) : storeE P m t a v k = storeE P m' t a v k := by
 unfold storeE
 cases size? P t <;> cases a <;> try rfl
 ·rename_i n j off
  cases v.cells <;> try rfl
  simp only [lookupC_congr (h j rfl)]
 ·rename_i n j ks i q
  cases v.cells <;> try rfl
  simp only [lookupA_congr (h j rfl)]

theorem lookupM_congr {m m' : Mem} {j : Nat} (h : lookup m j = lookup m' j) : lookupM m j = lookupM m' j := by unfold lookupM; rw [h]
def plSlot : AV → Option Nat
 | .pl j _ => some j
 |_ => none
theorem lookE_congr {m m' : Mem} {t : TypeId} {a y : AV} {ok : Bool} {k : Eff → Option R} (h : ∀ j, plSlot a = some j → lookup m j = lookup m' j) : lookE P m t a y ok k = lookE P m' t a y ok k := by
 unfold lookE
 cases P.underlying t with
 |none => rfl
 |some d =>
  cases d <;> try rfl
  cases a <;> try rfl
  cases y <;> try rfl
  rename_i j off d
  simp only [lookupM_congr (h j rfl)]
theorem putE_congr {m m' : Mem} {t : TypeId} {a y v : AV} {k : Eff → Option R} (h : ∀ j, plSlot a = some j → lookup m j = lookup m' j) : putE P m t a y v k = putE P m' t a y v k := by
 unfold putE
 cases P.underlying t with
 |none => rfl
 |some d =>
  cases d <;> try rfl
  cases a <;> try rfl
  cases y <;> try rfl
  rename_i j off d
  cases v.cells <;> try rfl
  simp only [lookupM_congr (h j rfl)]
theorem builtinE_congr {m m' : Mem} {d : Option Tmp} {b : Builtin} {ts : List TypeId} {args : List AV} {k : Eff → Option R} (h : ∀ j, (b = .clear ∨ b = .copy ∨ b = .append) ∧ mem j (AV.slots args) = true → lookup m j = lookup m' j) :
  builtinE P m d b ts args k = builtinE P m' d b ts args k := by
 unfold builtinE
 split <;> try rfl
 ·rename_i j ks off n c n2 ks2 rows2 r2
  have := h j ⟨.inr (.inr rfl), by simp [AV.slots, AV.slotsA, mem, beq_eq]⟩
  simp only [lookupA_congr this]
 ·rename_i j ks off n c
  have := h j ⟨.inl rfl, by simp [AV.slots, AV.slotsA, mem, beq_eq]⟩
  simp only [clearE, lookupA_congr this]
 ·rename_i j ks off n c nl ks2 rows2 r2
  have := h j ⟨.inr (.inl rfl), by simp [AV.slots, AV.slotsA, mem, beq_eq]⟩
  simp only [copyE, lookupA_congr this]

theorem deepL_congr {m m' : Mem} (ks : List Nat) : ∀ {l : List Nat}, (∀ k ∈ l, lookup m k = lookup m' k) → deepL m ks l = deepL m' ks l
 |[], _ => rfl
 |k :: l, h => by
  simp only [deepL]
  rw [h k (by simp), deepL_congr ks (l := l) fun j hj => h j (by simp [hj])]
theorem reach_congr {m m' : Mem} {ks : List Nat} (h : ∀ k ∈ reach m ks, lookup m k = lookup m' k) : reach m ks = reach m' ks := by
 unfold reach
 rw [deepL_congr ks fun k hk => h k (by unfold reach; exact mem_iff.1 (dedup_mem.2 (mem_iff.2 (by simp [hk]))))]
theorem opE_congr {t t' : List AV} {m m' : Mem} {o : Oper} {k kp : Eff → Option R} (ht : AlikeAt P t t' o.op.operands.toList) (hm : ∀ j ∈ touch P t m o, lookup m j = lookup m' j) :
  opE P Φ t m o k kp = opE P Φ t' m' o k kp := by
 have ev1 : ∀ {y : Operand} {ty : TypeId}, y ∈ o.op.operands.toList → evT P t ty y = evT P t' ty y := fun hy => ht _ hy _
 cases hop : o.op with
 |move y => simp only [opE, hop]; rw [ev1 (by simp [hop, Op.operands])]
 |assign y => simp only [opE, hop]; rw [ev1 (by simp [hop, Op.operands])]
 |pick c y z => simp only [opE, hop]; rw [ev1 (y := c) (by simp [hop, Op.operands]), ev1 (y := y) (by simp [hop, Op.operands]), ev1 (y := z) (by simp [hop, Op.operands])]
 |alloc e => simp only [opE, hop]
 |box e y => simp only [opE, hop]; rw [ev1 (y := y) (by simp [hop, Op.operands])]
 |build ty ps => simp only [opE, hop]; simp only [parts_congr (P := P) (t := t) (t' := t') (ps := ps.toList) fun z hz => ht z (by simpa [hop, Op.operands] using hz)]
 |buildSlice ty n ps =>
  simp only [opE, hop]
  simp only [rowsOf_congr (P := P) (t := t) (t' := t') (ps := ps.toList) fun z hz => ht z (by simpa [hop, Op.operands] using hz)]
 |load ty y =>
  simp only [opE, hop]
  rw [← ev1 (y := y) (by simp [hop, Op.operands])]
  split
  ·rename_i v hv
   exact loadE_congr fun j hj => hm j (by cases v <;> simp [ptrSlot] at hj <;> subst hj <;> simp [touch, hop, hv])
  ·rfl
 |store ty y z =>
  simp only [opE, hop]
  rw [← ev1 (y := y) (by simp [hop, Op.operands]), ← ev1 (y := z) (by simp [hop, Op.operands])]
  split
  ·rename_i v u hv hu
   exact storeE_congr fun j hj => hm j (by cases v <;> simp [ptrSlot] at hj <;> subst hj <;> simp [touch, hop, hv])
  ·rfl
 |nilCheck y => simp only [opE, hop]; rw [ev1 (y := y) (by simp [hop, Op.operands])]
 |binOp op ty y z u =>
  simp only [opE, hop]
  rw [ev1 (y := y) (by simp [hop, Op.operands]), ev1 (y := z) (by simp [hop, Op.operands])]
 |unOp op ty y => simp only [opE, hop]; rw [ev1 (y := y) (by simp [hop, Op.operands])]
 |convert s d y => simp only [opE, hop]; rw [ev1 (y := y) (by simp [hop, Op.operands])]
 |makeInterface ty y => simp only [opE, hop]; rw [ev1 (y := y) (by simp [hop, Op.operands])]
 |makeFunc f first caps =>
  have hc := evs_congr (P := P) (t := t) (t' := t') (ys := caps.toList) (ts := []) fun z hz => ht z (by simp [hop, Op.operands]; exact .inr (by simpa using hz))
  cases f <;> simp only [opE, hop, hc]
 |slice ty y lo hi mx =>
  simp only [opE, hop]
  rw [ev1 (y := y) (by simp [hop, Op.operands]), evO_congr (y := lo) fun z hz ty => ev1 (by subst hz; simp [hop, Op.operands]), evO_congr (y := hi) fun z hz ty => ev1 (by subst hz; simp [hop, Op.operands]),
   evO_congr (y := mx) fun z hz ty => ev1 (by subst hz; simp [hop, Op.operands])]
 |fieldAddr s y f => simp only [opE, hop]; rw [ev1 (y := y) (by simp [hop, Op.operands])]
 |field s y f => simp only [opE, hop]; rw [ev1 (y := y) (by simp [hop, Op.operands])]
 |indexAddr ty y z => simp only [opE, hop]; rw [ev1 (y := y) (by simp [hop, Op.operands]), ev1 (y := z) (by simp [hop, Op.operands])]
 |index ty y z => simp only [opE, hop]; rw [ev1 (y := y) (by simp [hop, Op.operands]), ev1 (y := z) (by simp [hop, Op.operands])]
 |typeAssert y a b c => cases c <;> simp only [opE, hop]; rw [ev1 (y := y) (by simp [hop, Op.operands])]
 |extract y i => simp only [opE, hop]; rw [ev1 (y := y) (by simp [hop, Op.operands])]
 |panic y => simp only [opE, hop]; rw [ev1 (y := y) (by simp [hop, Op.operands])]
 |call c =>
  obtain ⟨callee, ys, ts⟩ := c
  have hargs : evs P t ts.toList ys.toList = evs P t' ts.toList ys.toList := evs_congr fun z hz => ht z (by
   simp only [hop, Op.operands, Call.operands, Array.toList_append, List.mem_append]; exact .inr hz)
  cases callee with
  |value f =>
   simp only [opE, hop]
   have hf : evT P t 0 f = evT P t' 0 f := ev1 (by simp [hop, Op.operands, Call.operands])
   rw [← hf, ← hargs]
   split
   ·rename_i g caps args hg ha
    unfold callE
    simp only
    have hl : ∀ k ∈ reach m (AV.slots (args ++ caps)), lookup m k = lookup m' k := fun j hj => hm j (by simp only [touch, hop, hg, ha]; exact hj)
    rw [← reach_congr hl, cellsOf_congr hl, catM_congr hl, lendOf_congr _ hl]
   ·rfl
  |invoke r n => simp only [opE, hop]
  |builtin b =>
   simp only [opE, hop]
   rw [← hargs]
   split
   ·rename_i args ha
    exact builtinE_congr fun j hj => hm j (by
     rcases hj with ⟨hb, hj⟩
     rcases hb with rfl | rfl | rfl
     ·simp only [touch, hop, ha]; exact mem_iff.1 hj
     ·simp only [touch, hop, ha]; exact mem_iff.1 hj
     ·simp only [touch, hop, ha]; exact mem_iff.1 hj)
   ·rfl
 |makeMap ty r => cases r <;> simp only [opE, hop]
 |lookup ty y z ok =>
  simp only [opE, hop]
  split
  ·rw [← ev1 (y := y) (by simp [hop, Op.operands]), ← ev1 (y := z) (by simp [hop, Op.operands])]
   split
   ·rename_i v u hv hu
    exact lookE_congr fun j hj => by
     cases v with
     |pl j' off => simp only [plSlot, Option.some.injEq] at hj; subst hj; exact hm _ (by simp [touch, hop, hv])
     |_ => cases hj
   ·rfl
  ·rfl
 |mapUpdate ty y z v' =>
  simp only [opE, hop]
  split
  ·rw [← ev1 (y := y) (by simp [hop, Op.operands]), ← ev1 (y := z) (by simp [hop, Op.operands]), ← ev1 (y := v') (by simp [hop, Op.operands])]
   split
   ·rename_i v u q hv hu hq
    exact putE_congr fun j hj => by
     cases v with
     |pl j' off => simp only [plSlot, Option.some.injEq] at hj; subst hj; exact hm _ (by simp [touch, hop, hv])
     |_ => cases hj
   ·rfl
  ·rfl
 |_ => simp only [opE, hop]

def Gives (P : Program) (t : List AV) (m : Mem) (o : Oper) (eff : Eff) : Prop :=
 ∃ Φ' : Orc, OSound P Φ' ∧ ∀ (R : Type) (k kp : Eff → Option R), opE P Φ' t m o k kp = k eff
def GivesP (P : Program) (t : List AV) (m : Mem) (o : Oper) (eff : Eff) : Prop :=
 ∃ Φ' : Orc, OSound P Φ' ∧ ∀ (R : Type) (k kp : Eff → Option R), opE P Φ' t m o k kp = kp eff
theorem osound_none (P : Program) (hs : List Nat) : OSound P ⟨fun _ _ _ _ _ => none, hs⟩ := fun _ _ _ _ _ _ h => by cases h
open Classical in
noncomputable def one (f0 : FuncId) (args0 : List AV) (ext0 : List (List AV)) (out : Out) (hs : List Nat) : Orc := ⟨fun _ f args ext k => if f = f0 ∧ args = args0 ∧ ext = ext0 then k out else none, hs⟩
theorem osound_one {P : Program} {f0 : FuncId} {args0 : List AV} {ext0 : List (List AV)} {out : Out} {hs : List Nat} (h : Contract P f0 args0 ext0 out) : OSound P (one f0 args0 ext0 out hs) := by
 intro R f args ext k r hr
 unfold one at hr
 simp only at hr
 split at hr
 ·rename_i hc; obtain ⟨rfl, rfl, rfl⟩ := hc; exact ⟨out, h, hr⟩
 ·cases hr

theorem loadE_pick {m : Mem} {t : TypeId} {a : AV} {k : Eff → Option R} {res : R} (h : loadE P m t a k = some res) : ∃ eff, k eff = some res ∧ ∀ (R : Type) (k : Eff → Option R), loadE P m t a k = k eff := by
 unfold loadE at h ⊢
 repeat' split at h
 all_goals first
  |cases h
  |exact ⟨_, h, fun R k => by first | (simp only [*, if_true, if_false]; done) | (subst_vars; simp_all)⟩
theorem storeE_pick {m : Mem} {t : TypeId} {a v : AV} {k : Eff → Option R} {res : R} (h : storeE P m t a v k = some res) : ∃ eff, k eff = some res ∧ ∀ (R : Type) (k : Eff → Option R), storeE P m t a v k = k eff := by
 unfold storeE at h ⊢
 repeat' split at h
 all_goals first
  |cases h
  |exact ⟨_, h, fun R k => by first | (simp only [*, if_true, if_false]; done) | (subst_vars; simp_all)⟩
theorem newMapE_pick {d : Option Tmp} {t : TypeId} {k : Eff → Option R} {res : R} (h : newMapE P d t k = some res) : ∃ eff, k eff = some res ∧ ∀ (R : Type) (k : Eff → Option R), newMapE P d t k = k eff := by
 unfold newMapE at h ⊢
 repeat' split at h
 all_goals first
  |cases h
  |exact ⟨_, h, fun R k => by first | (simp only [*, if_true, if_false]; done) | (subst_vars; simp_all)⟩
theorem lookE_pick {m : Mem} {t : TypeId} {a y : AV} {ok : Bool} {k : Eff → Option R} {res : R} (h : lookE P m t a y ok k = some res) : ∃ eff, k eff = some res ∧ ∀ (R : Type) (k : Eff → Option R), lookE P m t a y ok k = k eff := by
 unfold lookE at h
 split at h
 ·rename_i kt et j off key hu
  split at h
  ·rename_i ag ks rows z ag' h1 h2 h3 h4
   split at h
   ·rename_i zr h5
    split at h
    ·rename_i h6
     split at h
     ·rename_i v h7
      exact ⟨_, h, fun R k => by unfold lookE; simp only [hu, h1, h2, h3, h4, h5, h6, h7, if_true]⟩
     ·cases h
    ·cases h
   ·cases h
  ·cases h
 ·cases h
theorem putE_pick {m : Mem} {t : TypeId} {a y v : AV} {k : Eff → Option R} {res : R} (h : putE P m t a y v k = some res) : ∃ eff, k eff = some res ∧ ∀ (R : Type) (k : Eff → Option R), putE P m t a y v k = k eff := by
 unfold putE at h
 split at h
 ·rename_i kt et j off key new hu hn
  split at h
  ·rename_i ag ks rows fl h1 h2 h3
   split at h
   ·rename_i h4
    exact ⟨_, h, fun R k => by unfold putE; simp only [hu, hn, h1, h2, h3, h4, if_true]⟩
   ·cases h
  ·cases h
 ·cases h
theorem sliceE_pick {x : AV} {lo hi mx : Option AV} {k : Eff → Option R} {res : R} (h : sliceE x lo hi mx k = some res) : ∃ eff, k eff = some res ∧ ∀ (R : Type) (k : Eff → Option R), sliceE x lo hi mx k = k eff := by
 unfold sliceE at h ⊢
 repeat' split at h
 all_goals first
  |cases h
  |exact ⟨_, h, fun R k => by first | (simp only [*, if_true, if_false]; done) | (subst_vars; simp_all)⟩
theorem clearE_pick {m : Mem} {ts : List TypeId} {j : Nat} {ks : List Kd} {off n : Nat} {k : Eff → Option R} {res : R} (h : clearE P m ts j ks off n k = some res) : ∃ eff, k eff = some res ∧ ∀ (R : Type) (k : Eff → Option R), clearE P m ts j ks off n k = k eff := by
 unfold clearE at h ⊢
 repeat' split at h
 all_goals first
  |cases h
  |exact ⟨_, h, fun R k => by first | (simp only [*, if_true, if_false]; done) | (subst_vars; simp_all)⟩
theorem copyE_pick {m : Mem} {ts : List TypeId} {j : Nat} {ks : List Kd} {off n : Nat} {ks2 : List Kd} {rows2 : Rows} {k : Eff → Option R} {res : R} (h : copyE P m ts j ks off n ks2 rows2 k = some res) : ∃ eff, k eff = some res ∧ ∀ (R : Type) (k : Eff → Option R), copyE P m ts j ks off n ks2 rows2 k = k eff := by
 unfold copyE at h ⊢
 repeat' split at h
 all_goals first
  |cases h
  |exact ⟨_, h, fun R k => by first | (simp only [*, if_true, if_false]; done) | (subst_vars; simp_all)⟩
theorem builtinE_pick {m : Mem} {d : Option Tmp} {b : Builtin} {ts : List TypeId} {args : List AV} {k : Eff → Option R} {res : R} (h : builtinE P m d b ts args k = some res) : ∃ eff, k eff = some res ∧ ∀ (R : Type) (k : Eff → Option R), builtinE P m d b ts args k = k eff := by
 unfold builtinE at h ⊢
 simp only [appTokK_eq] at h ⊢
 repeat' split at h
 all_goals first
  |cases h
  |exact clearE_pick h
  |exact copyE_pick h
  |exact ⟨_, h, fun R k => by first | (simp only [*, if_true, if_false]; done) | (subst_vars; simp_all)⟩

theorem opE_pick {Φ : Orc} (hΦ : OSound P Φ) {t : List AV} {m : Mem} {o : Oper} {k kp : Eff → Option R} {res : R} (h : opE P Φ t m o k kp = some res) : (∃ eff, k eff = some res ∧ Gives P t m o eff) ∨ (∃ eff, kp eff = some res ∧ GivesP P t m o eff) := by
 unfold opE at h
 cases hop : o.op
 case call c =>
  obtain ⟨callee, ys, ts⟩ := c
  cases callee with
  |value f =>
   simp only [hop] at h
   split at h
   ·rename_i f' caps args hf ha
    unfold callE at h
    simp only at h
    split at h
    ·rename_i ext hx
     split at h
     ·rename_i hle
      obtain ⟨out, hc, hk⟩ := hΦ R _ _ _ _ _ h
      cases hp : out.pan with
      |true =>
       rw [hp] at hk
       refine .inr ⟨_, hk, _, osound_one (hs := Φ.hs) hc, fun R' k' kp' => ?_⟩
       unfold opE callE
       simp only [hop, hf, ha, hx, one, hle, and_self, if_true, hp]
      |false =>
       rw [hp] at hk
       refine .inl ⟨_, hk, _, osound_one (hs := Φ.hs) hc, fun R' k' kp' => ?_⟩
       unfold opE callE
       simp only [hop, hf, ha, hx, one, hle, and_self, if_true, hp]
     ·rename_i hle
      split at h
      ·rename_i hnt
       obtain ⟨out, hc, hk⟩ := hΦ R _ _ _ _ _ h
       cases hp : out.pan with
       |true =>
        rw [hp] at hk
        refine .inr ⟨_, hk, _, osound_one (hs := Φ.hs) hc, fun R' k' kp' => ?_⟩
        unfold opE callE
        simp only [hop, hf, ha, hx, one, hle, hnt, and_self, if_true, hp]
       |false =>
        rw [hp] at hk
        refine .inl ⟨_, hk, _, osound_one (hs := Φ.hs) hc, fun R' k' kp' => ?_⟩
        unfold opE callE
        simp only [hop, hf, ha, hx, one, hle, hnt, and_self, if_true, hp]
      ·cases h
    ·cases h
   ·cases h
  |invoke r n => simp only [hop] at h; cases h
  |builtin b =>
   simp only [hop] at h
   split at h
   ·rename_i args ha
    obtain ⟨eff, h1, h2⟩ := builtinE_pick h
    exact .inl ⟨eff, h1, _, osound_none P Φ.hs, fun R' k' kp' => by unfold opE; simp only [hop, ha, h2]⟩
   ·cases h
 case load ty y =>
  simp only [hop] at h
  split at h
  ·rename_i v hv
   obtain ⟨eff, h1, h2⟩ := loadE_pick h
   exact .inl ⟨eff, h1, _, osound_none P Φ.hs, fun R' k' kp' => by unfold opE; simp only [hop, hv, h2]⟩
  ·cases h
 case store ty y z =>
  simp only [hop] at h
  split at h
  ·rename_i v u hv hu
   obtain ⟨eff, h1, h2⟩ := storeE_pick h
   exact .inl ⟨eff, h1, _, osound_none P Φ.hs, fun R' k' kp' => by unfold opE; simp only [hop, hv, hu, h2]⟩
  ·cases h
 case makeMap ty r =>
  cases r with
  |none =>
   simp only [hop] at h
   obtain ⟨eff, h1, h2⟩ := newMapE_pick h
   exact .inl ⟨eff, h1, _, osound_none P Φ.hs, fun R' k' kp' => by unfold opE; simp only [hop, h2]⟩
  |some r => simp only [hop] at h; cases h
 case lookup ty y z ok =>
  simp only [hop] at h
  split at h
  ·rename_i kt et hu
   split at h
   ·rename_i v u hv hw
    obtain ⟨eff, h1, h2⟩ := lookE_pick h
    exact .inl ⟨eff, h1, _, osound_none P Φ.hs, fun R' k' kp' => by unfold opE; simp only [hop, hu, hv, hw, h2]⟩
   ·cases h
  ·cases h
 case mapUpdate ty y z v' =>
  simp only [hop] at h
  split at h
  ·rename_i kt et hu
   split at h
   ·rename_i v u q hv hw hq
    obtain ⟨eff, h1, h2⟩ := putE_pick h
    exact .inl ⟨eff, h1, _, osound_none P Φ.hs, fun R' k' kp' => by unfold opE; simp only [hop, hu, hv, hw, hq, h2]⟩
   ·cases h
  ·cases h
 case slice ty y lo hi mx =>
  simp only [hop] at h
  repeat' split at h
  all_goals first
   |cases h; done
   |obtain ⟨eff, h1, h2⟩ := sliceE_pick h
    exact .inl ⟨eff, h1, _, osound_none P Φ.hs, fun R' k' kp' => by unfold opE; first | (simp only [hop, *, if_true]; done) | (simp_all; done)⟩
 case typeAssert y t0 t1 c => 
  cases c
  ·simp only [hop] at h
   repeat' split at h
   all_goals first
    |cases h; done
    |exact .inl ⟨_, h, _, osound_none P Φ.hs, fun R k kp => by unfold opE; first | (simp only [hop, *, if_true]; done) | (subst_vars; simp_all; done)⟩
  ·simp only [hop] at h; cases h
 case makeFunc f first caps =>
  cases f
  case func f =>
   simp only [hop] at h
   repeat' split at h
   all_goals first
    |cases h; done
    |exact .inl ⟨_, h, _, osound_none P Φ.hs, fun R k kp => by unfold opE; first | (simp only [hop, *, if_true]; done) | (subst_vars; simp_all; done)⟩
  all_goals simp only [hop] at h; cases h
 all_goals simp only [hop] at h
 all_goals try (repeat' split at h)
 all_goals first
  |cases h; done
  |exact .inr ⟨_, h, _, osound_none P Φ.hs, fun R k kp => by unfold opE; simp only [hop, *]; done⟩
  |exact .inl ⟨_, h, _, osound_none P Φ.hs, fun R k kp => by unfold opE; first | (simp only [hop, *, if_true, if_false]; done) | (subst_vars; simp_all; done)⟩
end Go.Den
namespace Go.Den
variable {P : Program}

theorem sub_iff {l ks : List Nat} : sub l ks = true ↔ ∀ k ∈ l, k ∈ ks := by
 induction l with
 |nil => simp [sub]
 |cons k l ih => simp [sub, mem_iff, ih]
theorem disj_iff {l ks : List Nat} : disj l ks = true ↔ ∀ k ∈ l, k ∉ ks := by
 induction l with
 |nil => simp [disj]
 |cons k l ih =>
  simp only [disj, Bool.and_eq_true, Bool.not_eq_true', ih, List.mem_cons, forall_eq_or_imp]
  rw [← mem_iff, Bool.not_eq_true]
theorem mem_false {k : Nat} {l : List Nat} : mem k l = false ↔ k ∉ l := by rw [← Bool.not_eq_true, mem_iff]

theorem cleanL_iff {p ks : List Nat} : ∀ {l : List AV}, AV.cleanL p ks l = true ↔ ∀ a ∈ l, AV.clean p ks a = true
 |[] => by simp [AV.cleanL]
 |a :: l => by simp [AV.cleanL, cleanL_iff (l := l)]

mutual
theorem scrub_clean {p ks p' ks' : List Nat} (hp : ∀ k ∈ p', k ∈ p) (hk : ∀ k ∈ ks', k ∈ ks) : ∀ {a : AV}, AV.clean p ks a = true → AV.scrub p' ks' a = a
 | .dv d, _ => by unfold AV.scrub; rfl
 | .sl n kd rows r, h => by
  unfold AV.scrub
  cases r with
  |tok k =>
   simp only [AV.clean, Bool.not_eq_true', mem_false] at h
   simp only [Right.scrub]
   rw [if_neg]
   rw [mem_iff]; exact fun hm => h (hk k hm)
  |no => rfl
  |ex => rfl
  |old => rfl
 | .agg cs, h => by unfold AV.scrub; rw [scrubL_clean hp hk (by simpa [AV.clean] using h)]
 | .tup cs, h => by unfold AV.scrub; rw [scrubL_clean hp hk (by simpa [AV.clean] using h)]
 | .pl k off, h => by
  unfold AV.scrub
  simp only [AV.clean, Bool.not_eq_true', mem_false] at h
  rw [if_neg]; rw [mem_iff]; exact fun hm => h (hp k hm)
 | .pv kd row off, _ => by unfold AV.scrub; rfl
 | .fn f cs, h => by unfold AV.scrub; rw [scrubL_clean hp hk (by simpa [AV.clean] using h)]
 | .ifc t v, h => by unfold AV.scrub; rw [scrub_clean hp hk (by simpa [AV.clean] using h)]
 | .ms k kd off n c, h => by
  unfold AV.scrub
  simp only [AV.clean, Bool.not_eq_true', mem_false] at h
  rw [if_neg]; rw [mem_iff]; exact fun hm => h (hp k hm)
 | .pa k kd i j, h => by
  unfold AV.scrub
  simp only [AV.clean, Bool.not_eq_true', mem_false] at h
  rw [if_neg]; rw [mem_iff]; exact fun hm => h (hp k hm)
 | .arr kd rows, _ => by unfold AV.scrub; rfl
 | .junk, _ => by unfold AV.scrub; rfl
theorem scrubL_clean {p ks p' ks' : List Nat} (hp : ∀ k ∈ p', k ∈ p) (hk : ∀ k ∈ ks', k ∈ ks) : ∀ {l : List AV}, AV.cleanL p ks l = true → AV.scrubL p' ks' l = l
 |[], _ => by unfold AV.scrubL; rfl
 |a :: l, h => by
  simp only [AV.cleanL, Bool.and_eq_true] at h
  unfold AV.scrubL; rw [scrub_clean hp hk h.1, scrubL_clean hp hk h.2]
end
mutual
theorem clean_scrub {p ks p' ks' : List Nat} : ∀ {a : AV}, (AV.clean p ks a = true ∨ ((∀ k ∈ p, k ∈ p') ∧ ∀ k ∈ ks, k ∈ ks')) → AV.clean p ks (AV.scrub p' ks' a) = true
 | .dv d, _ => by unfold AV.scrub; rfl
 | .sl n kd rows r, h => by
  unfold AV.scrub
  cases r with
  |tok k =>
   simp only [Right.scrub]
   split
   ·rfl
   ·rename_i hm
    rcases h with h | ⟨_, h⟩
    ·exact h
    ·simp only [AV.clean, Bool.not_eq_true', mem_false]; rw [mem_iff] at hm; exact fun h' => hm (h k h')
  |no => rfl
  |ex => rfl
  |old => rfl
 | .agg cs, h => by unfold AV.scrub; simp only [AV.clean]; exact cleanL_scrub (by simpa [AV.clean] using h)
 | .tup cs, h => by unfold AV.scrub; simp only [AV.clean]; exact cleanL_scrub (by simpa [AV.clean] using h)
 | .pl k off, h => by
  unfold AV.scrub
  split
  ·rfl
  ·rename_i hm
   rcases h with h | ⟨h, _⟩
   ·exact h
   ·simp only [AV.clean, Bool.not_eq_true', mem_false]; rw [mem_iff] at hm; exact fun h' => hm (h k h')
 | .pv kd row off, _ => by unfold AV.scrub; rfl
 | .fn f cs, h => by unfold AV.scrub; simp only [AV.clean]; exact cleanL_scrub (by simpa [AV.clean] using h)
 | .ifc t v, h => by unfold AV.scrub; simp only [AV.clean]; exact clean_scrub (by simpa [AV.clean] using h)
 | .ms k kd off n c, h => by
  unfold AV.scrub
  split
  ·rfl
  ·rename_i hm
   rcases h with h | ⟨h, _⟩
   ·exact h
   ·simp only [AV.clean, Bool.not_eq_true', mem_false]; rw [mem_iff] at hm; exact fun h' => hm (h k h')
 | .pa k kd i j, h => by
  unfold AV.scrub
  split
  ·rfl
  ·rename_i hm
   rcases h with h | ⟨h, _⟩
   ·exact h
   ·simp only [AV.clean, Bool.not_eq_true', mem_false]; rw [mem_iff] at hm; exact fun h' => hm (h k h')
 | .arr kd rows, _ => by unfold AV.scrub; rfl
 | .junk, _ => by unfold AV.scrub; rfl
theorem cleanL_scrub {p ks p' ks' : List Nat} : ∀ {l : List AV}, (AV.cleanL p ks l = true ∨ ((∀ k ∈ p, k ∈ p') ∧ ∀ k ∈ ks, k ∈ ks')) → AV.cleanL p ks (AV.scrubL p' ks' l) = true
 |[], _ => by unfold AV.scrubL; rfl
 |a :: l, h => by
  unfold AV.scrubL
  simp only [AV.cleanL, Bool.and_eq_true] at h ⊢
  exact ⟨clean_scrub (h.imp And.left id), cleanL_scrub (h.imp And.right id)⟩
end

theorem scrubL_get (p ks : List Nat) : ∀ (l : List AV) (i : Nat), (AV.scrubL p ks l)[i]? = l[i]?.map (AV.scrub p ks)
 |[], i => by unfold AV.scrubL; simp
 |a :: l, 0 => by unfold AV.scrubL; simp
 |a :: l, i + 1 => by unfold AV.scrubL; simp [scrubL_get p ks l i]

def wlook : List (Nat × List AV) → Nat → Option (List AV)
 |[], _ => none
 |(j, cs) :: l, k => match wlook l k with
  |some c => some c
  |none => if k = j then some cs else none
theorem lookup_writes : ∀ (wr : List (Nat × List AV)) (m : Mem) (k : Nat), lookup (writes m wr) k = (wlook wr k).or (lookup m k)
 |[], m, k => by simp [writes, wlook]
 |(j, cs) :: l, m, k => by
  simp only [writes, wlook]
  rw [lookup_writes l, lookup_write]
  cases h : wlook l k with
  |some c => simp
  |none =>
   by_cases hj : k = j <;> simp [hj]
theorem wlook_keys : ∀ {wr : List (Nat × List AV)} {k : Nat}, k ∉ keys wr → wlook wr k = none
 |[], k, _ => rfl
 |(j, cs) :: l, k, h => by
  simp only [keys, List.mem_cons, not_or] at h
  simp only [wlook, wlook_keys h.2, if_neg h.1]
theorem wlook_clean {p ks : List Nat} : ∀ {wr : List (Nat × List AV)} {k : Nat} {cs : List AV}, cleanW p ks wr = true → wlook wr k = some cs → mem k p = false ∧ AV.cleanL p ks cs = true
 |[], k, cs, _, h => by simp [wlook] at h
 |(j, ds) :: l, k, cs, hc, h => by
  simp only [cleanW, Bool.and_eq_true, Bool.not_eq_true'] at hc
  simp only [wlook] at h
  split at h
  ·rename_i c hw
   cases h
   exact wlook_clean hc.2 hw
  ·split at h
   ·rename_i hj; subst hj; cases h; exact hc.1
   ·cases h

def Eff.wr : Eff → List (Nat × List AV)
 | .pure _ => []
 | .full _ _ _ wr => wr
def Eff.ps : Eff → List Nat
 | .pure _ => []
 | .full _ p _ _ => p
def Eff.ks : Eff → List Nat
 | .pure _ => []
 | .full _ _ k _ => k
theorem Eff.keys_eq (e : Eff) : e.keys = Den.keys e.wr := by cases e <;> rfl
theorem Eff.clean_iff {p ks : List Nat} {e : Eff} : e.clean p ks = true ↔ e.val.clean p ks = true ∧ cleanW p ks e.wr = true := by
 cases e <;> simp [Eff.clean, Eff.val, Eff.wr, cleanW]
theorem Eff.within_iff {p ks : List Nat} {e : Eff} : e.within p ks = true ↔ (∀ k ∈ e.ps, k ∈ p) ∧ ∀ k ∈ e.ks, k ∈ ks := by
 cases e <;> simp [Eff.within, Eff.ps, Eff.ks, sub_iff]
theorem apply_t (s : St) (d : Option Tmp) (e : Eff) : (s.apply d e).t = setT (AV.scrubL e.ps e.ks s.t) d e.val := by
 cases e with
 |pure r => simp only [St.apply, Eff.ps, Eff.ks, Eff.val, AV.scrubL_nil]
 |full r p ks wr => rfl
theorem apply_m (s : St) (d : Option Tmp) (e : Eff) (k : Nat) : lookup (s.apply d e).m k = (wlook e.wr k).or (if mem k e.ps then none else (lookup s.m k).map (AV.scrubL e.ps e.ks)) := by
 cases e with
 |pure r =>
  simp only [St.apply, Eff.wr, Eff.ps, Eff.ks, wlook, Option.none_or, mem]
  cases lookup s.m k <;> simp [AV.scrubL_nil]
 |full r p ks wr =>
  simp only [St.apply, Eff.wr, Eff.ps, Eff.ks]
  rw [lookup_writes, lookup_scrubM, lookup_dropAll]
  congr 1
  by_cases h : mem k p = true <;> simp [h]
theorem setT_get (t : List AV) (d : Option Tmp) (r : AV) (i : Nat) : (setT t d r)[i]? = if d = some i then t[i]?.map (fun _ => r) else t[i]? := by
 cases d with
 |none => simp [setT]
 |some d =>
  simp only [setT, Option.some.injEq]
  by_cases h : d = i
  ·subst h
   rw [if_pos rfl, List.getElem?_set]
   simp only [if_true]
   split
   ·rename_i h; rw [List.getElem?_eq_getElem h]; rfl
   ·rename_i h; rw [List.getElem?_eq_none (by omega)]; rfl
  ·rw [if_neg h, List.getElem?_set_ne h]

structure St.Same (s s' : St) : Prop where
 t : s.t = s'.t
 m : ∀ k, lookup s.m k = lookup s'.m k
theorem St.Same.refl (s : St) : s.Same s := ⟨rfl, fun _ => rfl⟩
theorem St.Same.symm {s s' : St} (h : s.Same s') : s'.Same s := ⟨h.t.symm, fun k => (h.m k).symm⟩
theorem St.Same.trans {s s' s'' : St} (h : s.Same s') (h' : s'.Same s'') : s.Same s'' := ⟨h.t.trans h'.t, fun k => (h.m k).trans (h'.m k)⟩

def El.app (el : El) (s : St) : St := s.apply el.o.dst el.eff
theorem St.Same.app {s s' : St} (h : s.Same s') (el : El) : (el.app s).Same (el.app s') := by
 refine ⟨?_, fun k => ?_⟩
 ·unfold El.app; rw [apply_t, apply_t, h.t]
 ·unfold El.app; rw [apply_m, apply_m, h.m]

structure CleanSt (p ks : List Nat) (s : St) : Prop where
 t : AV.cleanL p ks s.t = true
 m : ∀ k cs, lookup s.m k = some cs → mem k p = false ∧ AV.cleanL p ks cs = true
theorem CleanSt.same {p ks : List Nat} {s s' : St} (h : CleanSt p ks s) (hs : s.Same s') : CleanSt p ks s' :=
 ⟨by rw [← hs.t]; exact h.t, fun k cs hk => h.m k cs (by rw [hs.m]; exact hk)⟩
theorem cleanL_set {p ks : List Nat} {t : List AV} (h : AV.cleanL p ks t = true) (d : Option Tmp) {r : AV} (hr : r.clean p ks = true) : AV.cleanL p ks (setT t d r) = true := by
 rw [cleanL_iff] at h ⊢
 intro a ha
 cases d with
 |none => exact h a ha
 |some d =>
  rcases List.mem_or_eq_of_mem_set ha with h1 | h1
  ·exact h a h1
  ·subst h1; exact hr
theorem CleanSt.app {p ks : List Nat} {s : St} (h : CleanSt p ks s) {el : El} (he : el.eff.clean p ks = true) : CleanSt p ks (el.app s) := by
 obtain ⟨h1, h2⟩ := Eff.clean_iff.1 he
 refine ⟨?_, fun k cs hk => ?_⟩
 ·unfold El.app; rw [apply_t]; exact cleanL_set (cleanL_scrub (.inl h.t)) _ h1
 ·unfold El.app at hk
  rw [apply_m] at hk
  cases hw : wlook el.eff.wr k with
  |some c =>
   rw [hw] at hk
   simp only [Option.some_or, Option.some.injEq] at hk
   subst hk
   exact wlook_clean h2 hw
  |none =>
   rw [hw, Option.none_or] at hk
   split at hk
   ·cases hk
   ·obtain ⟨c0, h0, rfl⟩ := Option.map_eq_some_iff.1 hk
    obtain ⟨g1, g2⟩ := h.m k c0 h0
    exact ⟨g1, cleanL_scrub (.inl g2)⟩
theorem app_clean {s : St} {el : El} (h : CleanSt el.p el.k s) (hw : el.eff.within el.p el.k = true) :
  (el.app s).t = setT s.t el.o.dst el.eff.val ∧ ∀ k, lookup (el.app s).m k = (wlook el.eff.wr k).or (lookup s.m k) := by
 obtain ⟨h1, h2⟩ := Eff.within_iff.1 hw
 refine ⟨?_, fun k => ?_⟩
 ·unfold El.app; rw [apply_t, scrubL_clean h1 h2 h.t]
 ·unfold El.app; rw [apply_m]
  congr 1
  cases hk : lookup s.m k with
  |none => simp
  |some cs =>
   obtain ⟨g1, g2⟩ := h.m k cs hk
   rw [if_neg, Option.map_some, scrubL_clean h1 h2 g2]
   rw [mem_iff]; exact fun hm => (mem_false.1 g1) (h1 k hm)

structure Swap (a b : El) : Prop where
 wa : a.eff.within a.p a.k = true
 wb : b.eff.within b.p b.k = true
 ca : a.eff.clean b.p b.k = true
 cb : b.eff.clean a.p a.k = true
 da : ∀ d, a.o.dst = some d → d ∉ b.nm
 db : ∀ d, b.o.dst = some d → d ∉ a.nm
 ne : ∀ d, a.o.dst = some d → b.o.dst ≠ some d
 ta : ∀ k ∈ a.eff.keys, k ∉ b.tch
 tb : ∀ k ∈ b.eff.keys, k ∉ a.tch
 pa : ∀ k ∈ a.p, k ∉ b.tch
 pb : ∀ k ∈ b.p, k ∉ a.tch
 kk : ∀ k ∈ a.eff.keys, k ∉ b.eff.keys
theorem dstNot_iff {d : Option Tmp} {l : List Nat} (h : dstNot d l = true) : ∀ e, d = some e → e ∉ l := by
 intro e he; subst he
 simpa [dstNot, mem_false] using h
mutual
theorem clean_nil : ∀ a : AV, AV.clean [] [] a = true
 | .dv d => rfl
 | .sl n kd rows r => by cases r <;> rfl
 | .agg cs => by simp only [AV.clean]; exact cleanL_nil cs
 | .tup cs => by simp only [AV.clean]; exact cleanL_nil cs
 | .pl k off => rfl
 | .pv kd row off => rfl
 | .fn f cs => by simp only [AV.clean]; exact cleanL_nil cs
 | .ifc t v => by simp only [AV.clean]; exact clean_nil v
 | .ms .. => rfl
 | .pa .. => rfl
 | .arr .. => rfl
 | .junk => rfl
theorem cleanL_nil : ∀ l : List AV, AV.cleanL [] [] l = true
 |[] => rfl
 |a :: l => by simp only [AV.cleanL, clean_nil a, cleanL_nil l, Bool.and_self]
end
theorem cleanW_nil : ∀ l : List (Nat × List AV), cleanW [] [] l = true
 |[] => rfl
 |(k, cs) :: l => by simp only [cleanW, mem, cleanL_nil cs, cleanW_nil l, Bool.not_false, Bool.and_self]
theorem Eff.cleanQ_eq (p ks : List Nat) (e : Eff) : e.cleanQ p ks = e.clean p ks := by
 unfold Eff.cleanQ
 split
 ·cases e with
  |pure r => simp only [Eff.clean, clean_nil]
  |full r p ks wr => simp only [Eff.clean, clean_nil, cleanW_nil, Bool.and_self]
 ·rfl
theorem Swap.of {a b : El} (h : okPair false a b = true) : Swap a b := by
 simp only [okPair, Eff.cleanQ_eq, El.blind, Bool.and_eq_true] at h
 obtain ⟨h0, ⟨⟨⟨h1, ⟨⟨h2, h3⟩, h4⟩, h4'⟩, ⟨⟨h5, h6⟩, h7⟩, h7'⟩, h8⟩, h9⟩ := h
 refine ⟨h2, h5, h0, h1, dstNot_iff h3, dstNot_iff h6, ?_, disj_iff.1 h4, disj_iff.1 h7, disj_iff.1 h4', disj_iff.1 h7', disj_iff.1 h9⟩
 intro d ha hb
 rw [ha, hb] at h8
 simp [dstNe] at h8
theorem okPair_clean {b : Bool} {x y : El} (h : okPair b x y = true) : x.eff.clean y.p y.k = true := by
 simp only [okPair, Eff.cleanQ_eq, Bool.and_eq_true] at h; exact h.1
theorem Swap.symm {a b : El} (h : Swap a b) : Swap b a :=
 ⟨h.wb, h.wa, h.cb, h.ca, h.db, h.da, fun d hb ha => h.ne d ha hb, h.tb, h.ta, h.pb, h.pa, fun k hk hk' => h.kk k hk' hk⟩
theorem setT_comm (t : List AV) {d d' : Option Tmp} (r r' : AV) (h : ∀ e, d = some e → d' ≠ some e) : setT (setT t d r) d' r' = setT (setT t d' r') d r := by
 apply List.ext_getElem?
 intro i
 simp only [setT_get]
 by_cases h1 : d = some i
 ·have h2 : d' ≠ some i := h i h1
  simp [h1, h2]
 ·by_cases h2 : d' = some i <;> simp [h1, h2]
theorem Swap.comm {a b : El} (h : Swap a b) {s : St} (ha : CleanSt a.p a.k s) (hb : CleanSt b.p b.k s) : (b.app (a.app s)).Same (a.app (b.app s)) := by
 obtain ⟨e1, e2⟩ := app_clean ha h.wa
 obtain ⟨f1, f2⟩ := app_clean hb h.wb
 obtain ⟨g1, g2⟩ := app_clean (hb.app h.ca) h.wb
 obtain ⟨i1, i2⟩ := app_clean (ha.app h.cb) h.wa
 refine ⟨?_, fun k => ?_⟩
 ·rw [g1, i1, e1, f1]; exact setT_comm _ _ _ h.ne
 ·rw [g2, i2, e2, f2]
  by_cases hk : k ∈ a.eff.keys
  ·have := h.kk k hk
   rw [Eff.keys_eq] at this
   rw [wlook_keys this]; simp
  ·rw [Eff.keys_eq] at hk
   rw [wlook_keys hk]; simp

structure Agree (b : El) (s s' : St) : Prop where
 t : ∀ d ∈ b.nm, s.t[d]? = s'.t[d]?
 m : ∀ k ∈ b.tch, lookup s.m k = lookup s'.m k
theorem Agree.refl (b : El) (s : St) : Agree b s s := ⟨fun _ _ => rfl, fun _ _ => rfl⟩
theorem Agree.symm {b : El} {s s' : St} (h : Agree b s s') : Agree b s' s := ⟨fun d hd => (h.t d hd).symm, fun k hk => (h.m k hk).symm⟩
theorem Agree.trans {b : El} {s s' s'' : St} (h : Agree b s s') (h' : Agree b s' s'') : Agree b s s'' := ⟨fun d hd => (h.t d hd).trans (h'.t d hd), fun k hk => (h.m k hk).trans (h'.m k hk)⟩
theorem Agree.same {b : El} {s s' : St} (h : s.Same s') : Agree b s s' := ⟨fun d _ => by rw [h.t], fun k _ => h.m k⟩
theorem Agree.app {b : El} {s s' : St} (h : Agree b s s') (el : El) : Agree b (el.app s) (el.app s') := by
 refine ⟨fun d hd => ?_, fun k hk => ?_⟩
 ·unfold El.app; rw [apply_t, apply_t, setT_get, setT_get, scrubL_get, scrubL_get, h.t d hd]
 ·unfold El.app; rw [apply_m, apply_m, h.m k hk]
theorem Swap.unseen {a b : El} (h : Swap a b) {s : St} (ha : CleanSt a.p a.k s) : Agree b (a.app s) s := by
 obtain ⟨e1, e2⟩ := app_clean ha h.wa
 refine ⟨fun d hd => ?_, fun k hk => ?_⟩
 ·rw [e1, setT_get, if_neg (fun he => h.da d he hd)]
 ·rw [e2, wlook_keys, Option.none_or]
  rw [← Eff.keys_eq]; exact fun hm => h.ta k hm hk

def stage (L : Nat → Bool) : Nat → List El → St → St
 |_, [], s => s
 |i, el :: l, s => stage L (i + 1) l (if L i then el.app s else s)
theorem stage_congr {L L' : Nat → Bool} : ∀ (l : List El) (i : Nat) (s : St), (∀ j, i ≤ j → j < i + l.length → L j = L' j) → stage L i l s = stage L' i l s
 |[], i, s, _ => rfl
 |el :: l, i, s, h => by
  simp only [stage]
  rw [h i (Nat.le_refl _) (by simp), stage_congr l (i + 1) _ fun j h1 h2 => h j (by omega) (by simp; omega)]
structure Fresh (l : List El) (s : St) : Prop where
 st : ∀ el ∈ l, CleanSt el.p el.k s
 pair : List.Pairwise (fun a b : El => a.eff.clean b.p b.k = true) l
theorem Fresh.tail {el : El} {l : List El} {s : St} (h : Fresh (el :: l) s) : Fresh l s := ⟨fun e he => h.st e (List.mem_cons_of_mem _ he), (List.pairwise_cons.1 h.pair).2⟩
theorem Fresh.app {el : El} {l : List El} {s : St} (h : Fresh (el :: l) s) : Fresh l (el.app s) :=
 ⟨fun e he => (h.st e (List.mem_cons_of_mem _ he)).app ((List.pairwise_cons.1 h.pair).1 e he), (List.pairwise_cons.1 h.pair).2⟩
theorem Fresh.ite {el : El} {l : List El} {s : St} (h : Fresh (el :: l) s) (b : Bool) : Fresh l (if b then el.app s else s) := by
 cases b
 ·exact h.tail
 ·exact h.app

theorem stage_behind {L : Nat → Bool} {b : El} : ∀ (l : List El) (i : Nat) (s s' : St), s'.Same (b.app s) → CleanSt b.p b.k s → Fresh l s → (∀ j el, l[j]? = some el → L (i + j) = true → Swap b el) →
  (stage L i l s').Same (b.app (stage L i l s))
 |[], i, s, s', h, _, _, _ => h
 |el :: l, i, s, s', h, hb, hf, hs => by
  simp only [stage]
  have hs' : ∀ j e, l[j]? = some e → L (i + 1 + j) = true → Swap b e := fun j e he hl => hs (j + 1) e (by simpa using he) (by rw [← hl]; congr 1; omega)
  cases hL : L i with
  |false => simp only [Bool.false_eq_true, if_false]; exact stage_behind l (i + 1) s s' h hb hf.tail hs'
  |true =>
   simp only [if_true]
   have hsw := hs 0 el rfl hL
   exact stage_behind l (i + 1) (el.app s) (el.app s') ((h.app el).trans (hsw.comm hb (hf.st el (List.mem_cons_self ..)))) (hb.app hsw.cb) hf.app hs'
theorem stage_unseen {L : Nat → Bool} {b : El} : ∀ (l : List El) (i : Nat) (s : St), Fresh l s → (∀ j el, l[j]? = some el → L (i + j) = true → Swap b el) → Agree b (stage L i l s) s
 |[], i, s, _, _ => .refl b s
 |el :: l, i, s, hf, hs => by
  simp only [stage]
  have hs' : ∀ j e, l[j]? = some e → L (i + 1 + j) = true → Swap b e := fun j e he hl => hs (j + 1) e (by simpa using he) (by rw [← hl]; congr 1; omega)
  cases hL : L i with
  |false => simp only [Bool.false_eq_true, if_false]; exact stage_unseen l (i + 1) s hf.tail hs'
  |true =>
   simp only [if_true]
   exact (stage_unseen l (i + 1) _ hf.app hs').trans ((hs 0 el rfl hL).symm.unseen (hf.st el (List.mem_cons_self ..)))

theorem stage_add {L : Nat → Bool} {b : El} {j : Nat} : ∀ (l : List El) (i : Nat) (s : St), i ≤ j → l[j - i]? = some b → L j = false → Fresh l s →
  (∀ k el, l[k]? = some el → j < i + k → L (i + k) = true → Swap b el) →
  (stage (fun k => k == j || L k) i l s).Same (b.app (stage L i l s))
 |[], i, s, _, h, _, _, _ => by simp at h
 |el :: l, i, s, hij, hb, hL, hf, hs => by
  simp only [stage]
  have hs' : ∀ k e, l[k]? = some e → j < i + 1 + k → L (i + 1 + k) = true → Swap b e := fun k e he h1 hl => hs (k + 1) e (by simpa using he) (by omega) (by rw [← hl]; congr 1; omega)
  by_cases h : i = j
  ·subst h
   simp only [Nat.sub_self, List.getElem?_cons_zero, Option.some.injEq] at hb
   subst hb
   simp only [beq_self_eq_true, Bool.true_or, if_true, hL, Bool.false_eq_true, if_false]
   rw [stage_congr (L' := L) l (i + 1) _ fun k h1 _ => by
    have : (k == i) = false := by simp; omega
    rw [this, Bool.false_or]]
   exact stage_behind l (i + 1) s (el.app s) (.refl _) (hf.st el (List.mem_cons_self ..)) hf.tail fun k e he hl => hs' k e he (by omega) hl
  ·have h2 : (i == j) = false := by simpa using h
   simp only [h2, Bool.false_or]
   refine stage_add l (i + 1) _ (by omega) ?_ hL (hf.ite _) hs'
   have : j - i = (j - (i + 1)) + 1 := by omega
   rw [this, List.getElem?_cons_succ] at hb
   exact hb
theorem stage_agree {L : Nat → Bool} {b : El} {j : Nat} : ∀ (l : List El) (i : Nat) (s s' : St), i ≤ j → l[j - i]? = some b → L j = false → Fresh l s → Fresh l s' → Agree b s s' →
  (∀ k el, l[k]? = some el → i + k < j → L (i + k) = false → Swap el b) →
  (∀ k el, l[k]? = some el → j < i + k → L (i + k) = true → Swap b el) →
  Agree b (stage L i l s) (stage (fun k => decide (k < j)) i l s')
 |[], i, s, s', _, h, _, _, _, _, _, _ => by simp at h
 |el :: l, i, s, s', hij, hb, hL, hf, hf', ha, h1, h2 => by
  simp only [stage]
  have h1' : ∀ k e, l[k]? = some e → i + 1 + k < j → L (i + 1 + k) = false → Swap e b := fun k e he g hl => h1 (k + 1) e (by simpa using he) (by omega) (by rw [← hl]; congr 1; omega)
  have h2' : ∀ k e, l[k]? = some e → j < i + 1 + k → L (i + 1 + k) = true → Swap b e := fun k e he g hl => h2 (k + 1) e (by simpa using he) (by omega) (by rw [← hl]; congr 1; omega)
  by_cases h : i = j
  ·subst h
   simp only [hL, Bool.false_eq_true, if_false, Nat.lt_irrefl, decide_false]
   have e1 : stage (fun k => decide (k < i)) (i + 1) l s' = s' := by
    clear h1 h2 h1' h2' hb hf hf' ha
    have : ∀ (l : List El) (n : Nat), i < n → stage (fun k => decide (k < i)) n l s' = s' := by
     intro l
     induction l with
     |nil => intro n _; rfl
     |cons e l ih => intro n hn; have hd : decide (n < i) = false := decide_eq_false (by omega); simp only [stage, hd, Bool.false_eq_true, if_false]; exact ih (n + 1) (by omega)
    exact this l (i + 1) (by omega)
   rw [e1]
   exact (stage_unseen l (i + 1) s hf.tail fun k e he hl => h2' k e he (by omega) hl).trans ha
  ·have hlt : i < j := by omega
   have hd : decide (i < j) = true := decide_eq_true hlt
   simp only [hd, if_true]
   have hb' : l[j - (i + 1)]? = some b := by
    have : j - i = (j - (i + 1)) + 1 := by omega
    rw [this, List.getElem?_cons_succ] at hb
    exact hb
   cases hLi : L i with
   |true =>
    simp only [if_true]
    exact stage_agree l (i + 1) _ _ (by omega) hb' hL hf.app hf'.app (ha.app el) h1' h2'
   |false =>
    simp only [Bool.false_eq_true, if_false]
    refine stage_agree l (i + 1) _ _ (by omega) hb' hL hf.tail hf'.app ?_ h1' h2'
    exact ha.trans ((h1 0 el rfl (by simpa using hlt) (by simpa using hLi)).unseen (hf'.st el (List.mem_cons_self ..))).symm

theorem close_mem {acc : List (List Nat)} : ∀ {b : List Nat} {i : Nat}, i ∈ close acc b → ∃ e ∈ b, i = e ∨ i ∈ acc.getD e []
 |[], i, h => by simp [close] at h
 |e :: b, i, h => by
  simp only [close, List.mem_cons, List.mem_append] at h
  rcases h with h | h | h
  ·exact ⟨e, by simp, .inl h⟩
  ·exact ⟨e, by simp, .inr h⟩
  ·obtain ⟨e', h1, h2⟩ := close_mem h; exact ⟨e', by simp [h1], h2⟩
theorem getD_append_left (acc : List (List Nat)) (x : List (List Nat)) (j : Nat) (h : j < acc.length) : (acc ++ x).getD j [] = acc.getD j [] := by
 simp [List.getElem?_append_left h]
theorem getD_big (acc : List (List Nat)) (j : Nat) (h : acc.length ≤ j) : acc.getD j [] = [] := by
 simp [List.getElem?_eq_none h]
theorem befs_spec (ops : List Oper) : ∀ (l : List Oper) (acc : List (List Nat)), (∀ k, l[k]? = ops[acc.length + k]?) →
  (∀ j o, j < acc.length → ops[j]? = some o → ∀ i ∈ acc.getD j [], ∃ e ∈ bindsOf o.after.toList, i = e ∨ (e < j ∧ i ∈ acc.getD e [])) →
  ∀ j o, ops[j]? = some o → ∀ i ∈ (befs l acc).getD j [], ∃ e ∈ bindsOf o.after.toList, i = e ∨ (e < j ∧ i ∈ (befs l acc).getD e [])
 |[], acc, hl, h, j, o, ho, i, hi => by
  simp only [befs] at hi ⊢
  rcases Nat.lt_or_ge j acc.length with hj | hj
  ·exact h j o hj ho i hi
  ·rw [getD_big _ _ hj] at hi; cases hi
 |o0 :: l, acc, hl, h, j, o, ho, i, hi => by
  simp only [befs] at hi ⊢
  refine befs_spec ops l _ ?_ ?_ j o ho i hi
  ·intro k; have := hl (k + 1); simp only [List.getElem?_cons_succ] at this; rw [this]; simp; congr 1; omega
  ·intro j o hj ho i hi
   simp only [List.length_append, List.length_singleton] at hj
   by_cases hj' : j < acc.length
   ·rw [getD_append_left _ _ _ hj'] at hi
    obtain ⟨e, he, h1⟩ := h j o hj' ho i hi
    refine ⟨e, he, h1.imp id fun ⟨g1, g2⟩ => ⟨g1, ?_⟩⟩
    rw [getD_append_left _ _ _ (by omega)]; exact g2
   ·have hj2 : j = acc.length := by omega
    subst hj2
    have ho2 : o0 = o := by have := hl 0; simp at this; rw [ho] at this; exact Option.some.inj this
    subst ho2
    have e1 : (acc ++ [dedup (close acc (bindsOf o0.after.toList))]).getD acc.length [] = dedup (close acc (bindsOf o0.after.toList)) := by simp
    rw [e1] at hi
    obtain ⟨e, he, h1⟩ := close_mem (mem_iff.1 (dedup_mem.1 (mem_iff.2 hi)))
    refine ⟨e, he, h1.imp id fun g => ?_⟩
    have hlt : e < acc.length := by
     rcases Nat.lt_or_ge e acc.length with h | h
     ·exact h
     ·rw [getD_big _ _ h] at g; cases g
    exact ⟨hlt, by rw [getD_append_left _ _ _ hlt]; exact g⟩

theorem bindsOf_mem : ∀ {l : List Edge} {i : Nat}, i ∈ bindsOf l ↔ ∃ e ∈ l, Region.binds .any e = true ∧ e.on = i
 |[], i => by simp [bindsOf]
 |e :: l, i => by
  simp only [bindsOf]
  cases h : Region.binds .any e with
  |true =>
   simp only [List.mem_cons, bindsOf_mem (l := l)]
   constructor
   ·rintro (h1 | ⟨e', h1, h2⟩)
    ·exact ⟨e, .inl rfl, h, h1.symm⟩
    ·exact ⟨e', .inr h1, h2⟩
   ·rintro ⟨e', h1 | h1, h2, h3⟩
    ·subst h1; exact .inl h3.symm
    ·exact .inr ⟨e', h1, h2, h3⟩
  |false =>
   simp only [List.mem_cons, bindsOf_mem (l := l)]
   constructor
   ·rintro ⟨e', h1, h2⟩; exact ⟨e', .inr h1, h2⟩
   ·rintro ⟨e', h1 | h1, h2, h3⟩
    ·subst h1; rw [h] at h2; cases h2
    ·exact ⟨e', h1, h2, h3⟩

def Down (ops : List Oper) (L : Nat → Bool) : Prop := ∀ j o, ops[j]? = some o → L j = true → ∀ i ∈ bindsOf o.after.toList, L i = true
theorem Down.bef {ops : List Oper} {L : Nat → Bool} (h : Down ops L) : ∀ (n j : Nat), j ≤ n → ∀ i o, ops[j]? = some o → (∀ i ∈ bindsOf o.after.toList, L i = true) → bef (befs ops []) i j = true → L i = true
 |n, j, hj, i, o, ho, hall, hb => by
  unfold Den.bef at hb
  rw [mem_iff] at hb
  obtain ⟨e, he, h1⟩ := befs_spec ops ops [] (fun k => by simp) (fun j o hj => by simp at hj) j o ho i hb
  rcases h1 with h1 | ⟨h1, h2⟩
  ·subst h1; exact hall i he
  ·cases n with
   |zero => omega
   |succ n =>
    have hlt : j < ops.length := (List.getElem?_eq_some_iff.1 ho).1
    have hoe : ops[e]? = some ops[e] := List.getElem?_eq_getElem (by omega)
    refine Down.bef h n e (by omega) i _ hoe ?_ (by unfold Den.bef; rw [mem_iff]; exact h2)
    exact h e _ hoe (hall e he)
end Go.Den
namespace Go.Den

structure StepOk (P : Program) (all : List Oper) (s : St) (el : El) : Prop where
 nm : el.nm = names all el.o
 yes : el.want = true → (el.o.guard = none ∨ ∃ g want d, el.o.guard = some (g, want) ∧ guardTmp all g = some d ∧ s.t[d]? = some (.B want)) ∧ Gives P s.t s.m el.o el.eff ∧ el.tch = touch P s.t s.m el.o
 no : el.want = false → el.eff = .pure .junk ∧ ∃ g want d, el.o.guard = some (g, want) ∧ guardTmp all g = some d ∧ s.t[d]? = some (.B (!want))
inductive Chain (P : Program) (all : List Oper) (B : List (List Nat)) : List El → St → List El → St → Prop
 |nil (acc : List El) (s : St) : Chain P all B acc s [] s
 |cons (acc : List El) (s : St) (el : El) (l : List El) (s' : St) : StepOk P all s el → (∃ o eff want tch, el = El.of all B acc.length o eff want tch) → okAll B acc.length 0 acc el = true →
   Chain P all B (acc ++ [el]) (el.app s) l s' → Chain P all B acc s (el :: l) s'

theorem of_o (all : List Oper) (B : List (List Nat)) (i : Nat) (o : Oper) (eff : Eff) (want : Bool) (tch : List Nat) :
  (El.of all B i o eff want tch).o = o ∧ (El.of all B i o eff want tch).eff = eff ∧ (El.of all B i o eff want tch).want = want ∧ (El.of all B i o eff want tch).tch = tch ∧ (El.of all B i o eff want tch).nm = names all o := by
 unfold El.of; split <;> exact ⟨rfl, rfl, rfl, rfl, rfl⟩
theorem set_get {t : List AV} {d : Nat} {a : AV} (h : t[d]? = some a) : t.set d a = t := by
 apply List.ext_getElem?
 intro i
 by_cases hi : d = i
 ·subst hi
  have hlt : d < t.length := (List.getElem?_eq_some_iff.1 h).1
  rw [List.getElem?_set_self hlt, h]
 ·rw [List.getElem?_set_ne hi]

theorem regD_chain {P : Program} {Φ : Orc} (hΦ : OSound P Φ) {R : Type} {all : List Oper} {B : List (List Nat)} {k : St → Option R} {kp : AV → St → Option R} {res : R} :
  ∀ (rest : List Oper) (acc : List El) (s : St), regD P Φ kp all B rest acc s k = some res → (∃ l s', Chain P all B acc s l s' ∧ l.map (·.o) = rest ∧ k s' = some res) ∨
   (∃ l s' o rest' D eff, Chain P all B acc s l s' ∧ rest = l.map (·.o) ++ o :: rest' ∧ o.guard = none ∧ GivesP P s'.t s'.m o eff ∧ afters B (acc ++ l).length (all.length - ((acc ++ l).length + 1)) ((acc ++ l).length + 1) = true ∧
    freeD B (acc ++ l).length (names all o) 0 (acc ++ l) = some D ∧ kp eff.val ((St.mk (junkT D 0 s'.t) s'.m).apply none eff) = some res)
 |[], acc, s, h => .inl ⟨[], s, .nil acc s, rfl, by simpa only [regD] using h⟩
 |o :: rest, acc, s, h => by
  have lift : ∀ (el : El), StepOk P all s el → (∃ o eff want tch, el = El.of all B acc.length o eff want tch) → okAll B acc.length 0 acc el = true → el.o = o → regD P Φ kp all B rest (acc ++ [el]) (el.app s) k = some res →
    (∃ l s', Chain P all B acc s l s' ∧ l.map (·.o) = o :: rest ∧ k s' = some res) ∨
   (∃ l s' o' rest' D eff, Chain P all B acc s l s' ∧ o :: rest = l.map (·.o) ++ o' :: rest' ∧ o'.guard = none ∧ GivesP P s'.t s'.m o' eff ∧ afters B (acc ++ l).length (all.length - ((acc ++ l).length + 1)) ((acc ++ l).length + 1) = true ∧
    freeD B (acc ++ l).length (names all o') 0 (acc ++ l) = some D ∧ kp eff.val ((St.mk (junkT D 0 s'.t) s'.m).apply none eff) = some res) := by
   intro el h1 h2 h3 h4 h5
   rcases regD_chain hΦ rest _ _ h5 with ⟨l, s', g1, g2, g3⟩ | ⟨l, s', o', rest', D, eff, g1, g2, g3, g4, g5, g6, g7⟩
   ·exact .inl ⟨el :: l, s', .cons acc s el l s' h1 h2 h3 g1, by simp [h4, g2], g3⟩
   ·have e1 : acc ++ [el] ++ l = acc ++ el :: l := by simp
    rw [e1] at g5 g6
    exact .inr ⟨el :: l, s', o', rest', D, eff, .cons acc s el l s' h1 h2 h3 g1, by simp [h4, g2], g3, g4, g5, g6, g7⟩
  -- an operation that is done
  have yes : (o.guard = none ∨ ∃ g want d, o.guard = some (g, want) ∧ guardTmp all g = some d ∧ s.t[d]? = some (.B want)) → ∀ (kpx : Eff → Option R),
    (∀ eff, kpx eff = some res → o.guard = none ∧ regP kp all B acc o s eff = some res) → opE P Φ s.t s.m o (fun e =>
     let el := El.of all B acc.length o e true (touch P s.t s.m o)
     if okAll B acc.length 0 acc el then regD P Φ kp all B rest (acc ++ [el]) (s.apply o.dst e) k else none) kpx = some res →
    (∃ l s', Chain P all B acc s l s' ∧ l.map (·.o) = o :: rest ∧ k s' = some res) ∨
   (∃ l s' o' rest' D eff, Chain P all B acc s l s' ∧ o :: rest = l.map (·.o) ++ o' :: rest' ∧ o'.guard = none ∧ GivesP P s'.t s'.m o' eff ∧ afters B (acc ++ l).length (all.length - ((acc ++ l).length + 1)) ((acc ++ l).length + 1) = true ∧
    freeD B (acc ++ l).length (names all o') 0 (acc ++ l) = some D ∧ kp eff.val ((St.mk (junkT D 0 s'.t) s'.m).apply none eff) = some res) := by
   intro hg kpx hkpx h
   rcases opE_pick hΦ h with ⟨eff, h1, h2⟩ | ⟨eff, h1, h2⟩
   ·simp only at h1
    split at h1
    ·rename_i hok
     obtain ⟨e1, e2, e3, e4, e5⟩ := of_o all B acc.length o eff true (touch P s.t s.m o)
     have happ : (El.of all B acc.length o eff true (touch P s.t s.m o)).app s = s.apply o.dst eff := by unfold El.app; rw [e1, e2]
     refine lift (El.of all B acc.length o eff true (touch P s.t s.m o)) ⟨by rw [e5, e1], fun _ => ?_, fun hw => by rw [e3] at hw; cases hw⟩ ⟨_, _, _, _, rfl⟩ hok e1 (by rw [happ]; exact h1)
     rw [e1, e2, e4]
     exact ⟨hg, h2, rfl⟩
    ·cases h1
   ·obtain ⟨hgn, h3⟩ := hkpx eff h1
    unfold regP at h3
    split at h3
    ·rename_i D ha hf
     rw [Eff.force_eq, St.force_eq] at h3
     exact .inr ⟨[], s, o, rest, D, eff, .nil acc s, rfl, hgn, h2, by simpa using ha, by simpa using hf, h3⟩
    ·cases h3
  have no : ∀ g want d, o.guard = some (g, want) → guardTmp all g = some d → s.t[d]? = some (.B (!want)) →
    (let el := El.of all B acc.length o (.pure .junk) false []
     if okAll B acc.length 0 acc el then regD P Φ kp all B rest (acc ++ [el]) (s.apply o.dst (.pure .junk)) k else none) = some res →
    (∃ l s', Chain P all B acc s l s' ∧ l.map (·.o) = o :: rest ∧ k s' = some res) ∨
   (∃ l s' o' rest' D eff, Chain P all B acc s l s' ∧ o :: rest = l.map (·.o) ++ o' :: rest' ∧ o'.guard = none ∧ GivesP P s'.t s'.m o' eff ∧ afters B (acc ++ l).length (all.length - ((acc ++ l).length + 1)) ((acc ++ l).length + 1) = true ∧
    freeD B (acc ++ l).length (names all o') 0 (acc ++ l) = some D ∧ kp eff.val ((St.mk (junkT D 0 s'.t) s'.m).apply none eff) = some res) := by
   intro g want d hg hd hb h1
   simp only at h1
   split at h1
   ·rename_i hok
    obtain ⟨e1, e2, e3, e4, e5⟩ := of_o all B acc.length o (.pure .junk) false []
    have happ : (El.of all B acc.length o (.pure .junk) false []).app s = s.apply o.dst (.pure .junk) := by unfold El.app; rw [e1, e2]
    refine lift (El.of all B acc.length o (.pure .junk) false []) ⟨by rw [e5, e1], fun hw => (by rw [e3] at hw; cases hw), fun _ => ?_⟩ ⟨_, _, _, _, rfl⟩ hok e1 (by rw [happ]; exact h1)
    rw [e1, e2]
    exact ⟨rfl, g, want, d, hg, hd, hb⟩
   ·cases h1
  simp only [regD, regN_eq] at h
  split at h
  ·rename_i hg; exact yes (.inl hg) _ (fun eff he => ⟨hg, he⟩) h
  ·rename_i g want hg
   split at h
   ·cases h
   ·rename_i d hd
    split at h
    ·rename_i b hb
     cases b <;> cases want <;> simp only at h <;> rw [set_get hb] at h
     ·exact yes (.inr ⟨g, false, d, hg, hd, hb⟩) _ (fun eff he => by cases he) h
     ·exact no g true d hg hd hb h
     ·exact no g false d hg hd hb h
     ·exact yes (.inr ⟨g, true, d, hg, hd, hb⟩) _ (fun eff he => by cases he) h
    ·cases h

theorem okAll_get {B : List (List Nat)} {j : Nat} {b : El} : ∀ {l : List El} {i : Nat}, okAll B j i l b = true → ∀ k a, l[k]? = some a → okPair (bef B (i + k) j) a b = true
 |[], i, _, k, a, h => by simp at h
 |c :: l, i, h, 0, a, ha => by
  simp only [okAll, Bool.and_eq_true] at h
  simp at ha; subst ha; exact h.1
 |c :: l, i, h, k + 1, a, ha => by
  simp only [okAll, Bool.and_eq_true] at h
  have := okAll_get h.2 k a (by simpa using ha)
  rw [← this]; congr 2; omega
theorem Chain.pairs {P : Program} {all : List Oper} {B : List (List Nat)} : ∀ {acc : List El} {s : St} {l : List El} {s' : St}, Chain P all B acc s l s' →
  (∀ i j a b, i < j → acc[i]? = some a → acc[j]? = some b → okPair (bef B i j) a b = true) →
  ∀ i j a b, i < j → (acc ++ l)[i]? = some a → (acc ++ l)[j]? = some b → okPair (bef B i j) a b = true
 |_, _, _, _, .nil acc s, h => by simpa using h
 |_, _, _, _, .cons acc s el l s' _ _ hok hc, h => by
  have := hc.pairs (fun i j a b hij ha hb => by
   by_cases hj : j < acc.length
   ·rw [List.getElem?_append_left hj] at hb
    rw [List.getElem?_append_left (by omega)] at ha
    exact h i j a b hij ha hb
   ·have hj2 : j = acc.length := by
     have := (List.getElem?_eq_some_iff.1 hb).1
     simp at this; omega
    subst hj2
    simp at hb; subst hb
    rw [List.getElem?_append_left hij] at ha
    have := okAll_get hok i a ha
    simpa using this)
  simpa using this
theorem Chain.step {P : Program} {all : List Oper} {B : List (List Nat)} : ∀ {acc : List El} {s : St} {l : List El} {s' : St}, Chain P all B acc s l s' → ∀ (i j : Nat) (el : El), l[j]? = some el → StepOk P all (stage (fun k => decide (k < i + j)) i l s) el
 |_, _, _, _, .nil acc s, i, j, el, h => by simp at h
 |_, _, _, _, .cons acc s e l s' hs _ _ hc, i, 0, el, h => by
  simp at h; subst h
  have hn : ∀ (l : List El) (n : Nat), i ≤ n → stage (fun k => decide (k < i + 0)) n l s = s := by
   intro l
   induction l with
   |nil => intro n _; rfl
   |cons e l ih => intro n hn; have hd : decide (n < i + 0) = false := decide_eq_false (by omega); simp only [stage, hd, Bool.false_eq_true, if_false]; exact ih (n + 1) (by omega)
  rw [hn _ _ (Nat.le_refl _)]; exact hs
 |_, _, _, _, .cons acc s e l s' hs _ _ hc, i, j + 1, el, h => by
  have hd : decide (i < i + (j + 1)) = true := decide_eq_true (by omega)
  simp only [stage, hd, if_true]
  have := hc.step (i + 1) j el (by simpa using h)
  rw [show i + 1 + j = i + (j + 1) by omega] at this
  exact this
theorem Chain.done {P : Program} {all : List Oper} {B : List (List Nat)} : ∀ {acc : List El} {s : St} {l : List El} {s' : St}, Chain P all B acc s l s' → ∀ i, stage (fun _ => true) i l s = s'
 |_, _, _, _, .nil acc s, i => rfl
 |_, _, _, _, .cons acc s e l s' hs _ _ hc, i => by simp only [stage, if_true]; exact hc.done (i + 1)
theorem strikes_get (all : List Oper) (B : List (List Nat)) : ∀ (l : List Oper) (i : Nat) (j : Nat) (o : Oper), l[j]? = some o → ∀ o' eff want tch, o' = o →
  (∀ k ∈ (El.of all B (i + j) o' eff want tch).p, k ∈ (strikes all B i l).1) ∧ (∀ k ∈ (El.of all B (i + j) o' eff want tch).k, k ∈ (strikes all B i l).2)
 |[], i, j, o, h => by simp at h
 |o0 :: l, i, 0, o, h => by
  simp at h; subst h
  rintro o' eff want tch rfl
  simp only [strikes, Nat.add_zero]
  unfold El.of
  cases fixed B i all.length with
  |true => exact ⟨fun k hk => absurd hk List.not_mem_nil, fun k hk => absurd hk List.not_mem_nil⟩
  |false => exact ⟨fun k hk => List.mem_append_left _ hk, fun k hk => List.mem_append_left _ hk⟩
 |o0 :: l, i, j + 1, o, h => by
  intro o' eff want tch ho
  have := strikes_get all B l (i + 1) j o (by simpa using h) o' eff want tch ho
  rw [show i + 1 + j = i + (j + 1) by omega] at this
  simp only [strikes]
  cases fixed B i all.length with
  |true => exact this
  |false => exact ⟨fun k hk => List.mem_append_right _ (this.1 k hk), fun k hk => List.mem_append_right _ (this.2 k hk)⟩
theorem Chain.own {P : Program} {all : List Oper} {B : List (List Nat)} : ∀ {acc : List El} {s : St} {l : List El} {s' : St}, Chain P all B acc s l s' → ∀ j el, l[j]? = some el → ∃ eff want tch, el = El.of all B (acc.length + j) el.o eff want tch
 |_, _, _, _, .nil acc s, j, el, h => by simp at h
 |_, _, _, _, .cons acc s e l s' _ ⟨o, eff, want, tch, he⟩ _ hc, 0, el, h => by
  simp at h; subst h
  have : e.o = o := by rw [he]; exact (of_o ..).1
  exact ⟨eff, want, tch, by rw [this]; exact he⟩
 |_, _, _, _, .cons acc s e l s' _ _ _ hc, j + 1, el, h => by
  obtain ⟨eff, want, tch, h1⟩ := hc.own j el (by simpa using h)
  refine ⟨eff, want, tch, ?_⟩
  rw [h1]
  simp only [List.length_append, List.length_singleton]
  rw [show acc.length + 1 + j = acc.length + (j + 1) by omega, (of_o ..).1]
theorem strike_clean {p ks p' ks' : List Nat} (hp : ∀ k ∈ p', k ∈ p) (hk : ∀ k ∈ ks', k ∈ ks) (s : St) : CleanSt p' ks' (strike p ks s) := by
 refine ⟨cleanL_scrub (.inr ⟨hp, hk⟩), fun k cs h => ?_⟩
 simp only [strike] at h
 rw [lookup_scrubM, lookup_dropAll] at h
 obtain ⟨c0, h0, rfl⟩ := Option.map_eq_some_iff.1 h
 split at h0
 ·cases h0
 ·rename_i hm
  exact ⟨by rw [mem_false]; rw [mem_iff] at hm; exact fun h' => hm (hp k h'), cleanL_scrub (.inr ⟨hp, hk⟩)⟩

variable {e : Env} {R : Type} {res : R}
theorem StOk.strike {x : X} {w : World} {s : St} {a : Act} (hs : StOk e x w s a) (p ks : List Nat) : StOk e x w (strike p ks s) a := by
 refine ⟨?_, hs.tmps.scrub (Ext.refl _ _ _), hs.defers⟩
 refine hs.inv.forget (p := p) (ks := ks) (Ext.refl _ _ _) rfl (fun _ _ h => h) (fun _ _ => rfl) (fun _ _ => rfl) ?_ hs.inv.tok hs.inv.tokslot hs.inv.toktok
 intro k cs hk
 simp only [Den.strike] at hk
 rw [lookup_scrubM, lookup_dropAll] at hk
 obtain ⟨c0, h0, h1⟩ := Option.map_eq_some_iff.1 hk
 split at h0
 ·cases h0
 ·rename_i hm
  exact ⟨by simpa using hm, c0, h0, h1.symm⟩
theorem backsL_mem {i : Nat} : ∀ {l : List Nat}, backs.backsL i l = true → ∀ j ∈ l, j < i
 |[], _, j, h => by cases h
 |k :: l, h, j, hj => by
  simp only [backs.backsL, Bool.and_eq_true, Nat.blt_eq] at h
  rcases List.mem_cons.1 hj with h1 | h1
  ·subst h1; exact h.1
  ·exact backsL_mem h.2 j h1
theorem backs_get : ∀ {l : List Oper} {i : Nat}, backs i l = true → ∀ j o, l[j]? = some o → ∀ k ∈ bindsOf o.after.toList, k < i + j
 |[], i, _, j, o, h => by simp at h
 |o0 :: l, i, hb, 0, o, h => by
  simp only [backs, Bool.and_eq_true] at hb
  simp at h; subst h; exact backsL_mem hb.1
 |o0 :: l, i, hb, j + 1, o, h => by
  simp only [backs, Bool.and_eq_true] at hb
  intro k hk
  have := backs_get hb.2 j o (by simpa using h) k hk
  omega
theorem tmpsOf_mem {d : Tmp} : ∀ {l : List Operand}, .tmp d ∈ l → d ∈ tmpsOf l
 |[], h => by cases h
 |y :: l, h => by
  rcases List.mem_cons.1 h with h1 | h1
  ·subst h1; simp [tmpsOf]
  ·have := tmpsOf_mem h1
   cases y <;> simp [tmpsOf, this]

theorem ready_nil {ops : Array Oper} {listed : Array Bool} (hbk : backs 0 ops.toList = true) (hsz : listed.size = ops.size) (hr : Region.ready .any ops listed = []) : ∀ (n j : Nat), j ≤ n → j < ops.size → listed.getD j false = true := by
 intro n
 induction n with
 |zero =>
  intro j hj hlt
  cases hlj : listed.getD j false with
  |true => rfl
  |false =>
   exfalso
   have : j ∈ Region.ready .any ops listed := by
    rw [mem_ready]
    refine ⟨by simp [hsz, hlt] at hlj ⊢; exact hlj, ops[j], by simp [hlt], fun ed hed hbd => ?_⟩
    have := backs_get hbk j ops[j] (by simp [hlt]) ed.on (bindsOf_mem.2 ⟨ed, by simpa using hed, hbd, rfl⟩)
    omega
   rw [hr] at this; cases this
 |succ n ih =>
  intro j hj hlt
  cases hlj : listed.getD j false with
  |true => rfl
  |false =>
   exfalso
   have : j ∈ Region.ready .any ops listed := by
    rw [mem_ready]
    refine ⟨by simp [hsz, hlt] at hlj ⊢; exact hlj, ops[j], by simp [hlt], fun ed hed hbd => ?_⟩
    have := backs_get hbk j ops[j] (by simp [hlt]) ed.on (bindsOf_mem.2 ⟨ed, by simpa using hed, hbd, rfl⟩)
    exact ih ed.on (by omega) (by omega)
   rw [hr] at this; cases this

open Classical in
theorem draw_main {e : Env} (ops : Array Oper) {Q : Exit → Act → World → Prop} {l : List El} {s0 sE : St} {B : List (List Nat)} (hB : befs ops.toList [] = B) (hbk : backs 0 ops.toList = true) (hc : Chain e.P ops.toList B [] s0 l sE) (hpre : ∀ j, j < l.length → ops[j]? = (l[j]?).map (·.o)) (hle : l.length ≤ ops.size) (hfresh : Fresh l s0)
  (hfin : ∀ (listed : Array Bool) (a : Act) (w : World) (x : X), listed.size = ops.size → Region.ready .any ops listed = [] → (∀ i, listed.getD i false = true → i < l.length) → StOk e x w (stage (fun j => listed.getD j false) 0 l s0) a → Q .normal a w)
  (hout : ∀ (listed : Array Bool) (a : Act) (w : World) (x : X) (j : Nat) (K' : Act → World → Prop), listed.size = ops.size → j ∈ Region.ready .any ops listed → l.length ≤ j → Down ops.toList (fun j => listed.getD j false) → (∀ i, listed.getD i false = true → i < l.length) →
   StOk e x w (stage (fun j => listed.getD j false) 0 l s0) a → wpOp e.P ops Q j K' a w) :
  ∀ (fuel : Nat) (listed : Array Bool) (a : Act) (w : World) (x : X), listed.size = ops.size → listed.toList.count false ≤ fuel → Down ops.toList (fun j => listed.getD j false) → (∀ i, listed.getD i false = true → i < l.length) →
   StOk e x w (stage (fun j => listed.getD j false) 0 l s0) a → wpAny e.P .any ops Q fuel listed a w := by
 have hget : ∀ (j : Nat) (el : El), l[j]? = some el → ops[j]? = some el.o := by
  intro j el h1
  rw [hpre j (List.getElem?_eq_some_iff.1 h1).1, h1]; rfl
 have hop : ∀ (j : Nat) (o : Oper), ops[j]? = some o → j < l.length → ∃ el, l[j]? = some el ∧ el.o = o := by
  intro j o h1 hj
  rw [hpre j hj, Option.map_eq_some_iff] at h1
  exact h1
 have hpair : ∀ i j a b, i < j → l[i]? = some a → l[j]? = some b → okPair (bef B i j) a b = true := by
  have := hc.pairs (fun i j a b _ h => by simp at h)
  simpa using this
 intro fuel
 induction fuel with
 |zero =>
  intro listed a w x hsz hcnt hd hin hs
  have hr : Region.ready .any ops listed = [] := by
   cases hr : Region.ready .any ops listed with
   |nil => rfl
   |cons j js =>
    exfalso
    have hj : j ∈ Region.ready .any ops listed := by rw [hr]; exact List.mem_cons_self ..
    obtain ⟨h1, o, h2, _⟩ := mem_ready.1 hj
    have hlt : j < listed.size := by rw [hsz]; exact (Array.getElem?_eq_some_iff.1 h2).1
    have : false ∈ listed.toList := by
     rw [Array.mem_toList_iff]
     have h3 : listed[j] = false := by simpa [hlt] using h1
     rw [← h3]; exact Array.getElem_mem hlt
    have := List.count_pos_iff.2 this
    omega
  exact ⟨hr, hfin listed a w x hsz hr hin hs⟩
 |succ fuel ih =>
  intro listed a w x hsz hcnt hd hin hs
  refine ⟨fun hr => hfin listed a w x hsz hr hin hs, fun j hj => ?_⟩
  by_cases hjl : j < l.length
  case neg => exact hout listed a w x j _ hsz hj (by omega) hd hin hs
  obtain ⟨hj1, o, ho, hj2⟩ := mem_ready.1 hj
  have hlt : j < ops.size := (Array.getElem?_eq_some_iff.1 ho).1
  have hlt' : j < listed.size := by omega
  obtain ⟨el, hel, rfl⟩ := hop j o ho hjl
  have hLj : listed.getD j false = false := by simp [hlt'] at hj1 ⊢; exact hj1
  have hbj : ∀ i ∈ bindsOf el.o.after.toList, listed.getD i false = true := by
   intro i hi
   obtain ⟨ed, h1, h2, rfl⟩ := bindsOf_mem.1 hi
   exact hj2 ed (by simpa using h1) h2
  have hoj : ops.toList[j]? = some el.o := by rw [Array.getElem?_toList]; exact ho
  have hbefj : ∀ i, bef B i j = true → listed.getD i false = true := by
   intro i hb
   rw [← hB] at hb
   exact hd.bef j j (Nat.le_refl _) i el.o hoj hbj hb
  have hbehind : ∀ (k : Nat) (b : El), l[k]? = some b → j < 0 + k → listed.getD (0 + k) false = true → Swap el b := by
   intro k b hk hjk hLk
   rw [Nat.zero_add] at hjk hLk
   have := hpair j k el b hjk hel hk
   cases hb : bef B j k with
   |false => rw [hb] at this; exact Swap.of this
   |true =>
    exfalso
    rw [← hB] at hb
    have hok := hget k b hk
    have := hd.bef k k (Nat.le_refl _) j b.o (by rw [Array.getElem?_toList]; exact hok) (hd k b.o (by rw [Array.getElem?_toList]; exact hok) hLk) hb
    rw [hLj] at this; cases this
  have hahead : ∀ (k : Nat) (b : El), l[k]? = some b → 0 + k < j → listed.getD (0 + k) false = false → Swap b el := by
   intro k b hk hkj hLk
   rw [Nat.zero_add] at hkj hLk
   have := hpair k j b el hkj hk hel
   cases hb : bef B k j with
   |false => rw [hb] at this; exact Swap.of this
   |true => have := hbefj k hb; rw [hLk] at this; cases this
  have hagree := stage_agree (L := fun j => listed.getD j false) (b := el) (j := j) l 0 s0 s0 (Nat.zero_le _) (by simpa using hel) hLj hfresh hfresh (.refl _ _) hahead hbehind
  have hadd := stage_add (L := fun j => listed.getD j false) (b := el) (j := j) l 0 s0 (Nat.zero_le _) (by simpa using hel) hLj hfresh hbehind
  have hstep := hc.step 0 j el hel
  simp only [Nat.zero_add] at hstep
  -- the new list
  let listed' := listed.setIfInBounds j true
  have hL' : ∀ k, listed'.getD k false = (k == j || listed.getD k false) := by
   intro k
   by_cases hk : k = j
   ·subst hk; simp [listed', hlt']
   ·have : (k == j) = false := by simpa using hk
    rw [this, Bool.false_or]
    exact getD_set_ne false (Ne.symm hk)
  have hcnt' : listed'.toList.count false ≤ fuel := by
   have h3 : listed.toList[j]'(by simpa using hlt') = false := by simpa [hlt'] using hj1
   have hmem : false ∈ listed.toList := by rw [← h3]; exact List.getElem_mem _
   have hpos := List.count_pos_iff.2 hmem
   simp only [listed', Array.toList_setIfInBounds]
   rw [List.count_set (by simpa using hlt'), h3]
   simp only [beq_self_eq_true, if_true]
   have : (true == false) = false := rfl
   rw [this]
   simp only [Bool.false_eq_true, if_false]
   omega
  have hd' : Down ops.toList (fun j => listed'.getD j false) := by
   intro k o hk hLk i hi
   simp only [hL'] at hLk ⊢
   rcases Bool.or_eq_true_iff.1 hLk with h1 | h1
   ·have : k = j := by simpa using h1
    subst this
    rw [hoj] at hk; cases hk
    rw [hbj i hi, Bool.or_true]
   ·have := hd k o hk h1 i hi
    simp only at this
    rw [this, Bool.or_true]
  have hgo : ∀ (x' : X) (w' : World) (v : Value), StOk e x' w' (el.app (stage (fun j => listed.getD j false) 0 l s0)) (a.put el.o.dst v) → wpAny e.P .any ops Q fuel listed' (a.put el.o.dst v) w' := by
   intro x' w' v hs'
   refine ih listed' _ w' x' (by simp [listed', hsz]) hcnt' hd' (fun i hi => ?_) ?_
   ·rw [hL'] at hi
    rcases Bool.or_eq_true_iff.1 hi with h1 | h1
    ·have : i = j := by simpa using h1
     omega
    ·exact hin i h1
   have e1 : (fun j => listed'.getD j false) = (fun k => k == j || listed.getD k false) := funext hL'
   rw [e1]
   exact ⟨hs'.inv.congr hadd.m, by rw [hadd.t]; exact hs'.tmps, hs'.defers⟩
  -- the guard
  have hguard : ∀ (g : Nat) (want b : Bool) (d : Nat), el.o.guard = some (g, want) → guardTmp ops.toList g = some d → (stage (fun k => decide (k < j)) 0 l s0).t[d]? = some (.B b) → yielded ops a.tmps g = some b := by
   intro g want b d hg hd hb
   have hdm : d ∈ el.nm := by rw [hstep.nm]; simp [names, hg, hd]
   have h1 := hagree.t d hdm
   rw [hb] at h1
   obtain ⟨_, hv⟩ := hs.setB h1
   rw [guardTmp_get, Array.getElem?_toList] at hd
   simp [yielded, hd, hv]
  unfold wpOp
  rw [ho]
  simp only
  cases hw : el.want with
  |true =>
   obtain ⟨hg, ⟨Φ', hΦ', hgive⟩, htch⟩ := hstep.yes hw
   have hwt : Region.wanted el.o (yielded ops a.tmps) = true := by
    rcases hg with hg | ⟨g, want, d, hg, hd, hb⟩
    ·simp [Region.wanted, hg]
    ·simp only [Region.wanted, hg, hguard g want want d hg hd hb]; simp
   rw [if_pos hwt]
   left
   have hop' := hgive Unit (fun e => if e = el.eff then some () else none) (fun _ => none)
   rw [opE_congr (t' := (stage (fun j => listed.getD j false) 0 l s0).t) (m' := (stage (fun j => listed.getD j false) 0 l s0).m)
    (fun y hy ty => ?_) (fun k hk => (hagree.m k (by rw [htch]; exact hk)).symm)] at hop'
   ·simp only [if_true] at hop'
    refine op_sound hΦ' hs.inv hs.tmps ?_ (fun eff x' w' v h1 => by cases h1) hop'
    intro eff x' w' v h1 ha
    by_cases he : eff = el.eff
    ·subst he
     exact hgo x' w' v (hs.apply ha el.o.dst)
    ·simp only [if_neg he] at h1; cases h1
   ·cases y with
    |tmp d =>
     have hdm : d ∈ el.nm := by
      rw [hstep.nm]
      unfold names
      have := tmpsOf_mem hy
      split
      ·exact this
      ·split
       ·exact List.mem_cons_of_mem _ this
       ·exact this
     exact (hagree.t d hdm).symm
    |_ => rfl
  |false =>
   obtain ⟨heff, g, want, d, hg, hd, hb⟩ := hstep.no hw
   have hwt : Region.wanted el.o (yielded ops a.tmps) = false := by
    simp only [Region.wanted, hg, hguard g want (!want) d hg hd hb]
    cases want <;> rfl
   rw [if_neg (by rw [hwt]; exact Bool.false_ne_true)]
   refine hgo x w undef ?_
   unfold El.app
   rw [heff]
   exact hs.apply (eff := .pure .junk) ⟨.junk undef, hs.inv, Ext.refl _ _ _⟩ el.o.dst

structure Alk (D : List Nat) (s s' : St) : Prop where
 len : s.t.length = s'.t.length
 t : ∀ d, d ∉ D → s.t[d]? = s'.t[d]?
 m : ∀ k, lookup s.m k = lookup s'.m k
theorem setT_len (t : List AV) (d : Option Tmp) (r : AV) : (setT t d r).length = t.length := by cases d <;> simp [setT]
theorem scrubL_len (p ks : List Nat) : ∀ l : List AV, (AV.scrubL p ks l).length = l.length
 |[] => rfl
 |a :: l => by simp only [AV.scrubL, List.length_cons, scrubL_len p ks l]
theorem Alk.apply {D : List Nat} {s s' : St} (h : Alk D s s') (d : Option Tmp) (e : Eff) : Alk D (s.apply d e) (s'.apply d e) := by
 refine ⟨?_, fun i hi => ?_, fun k => ?_⟩
 ·rw [apply_t, apply_t, setT_len, setT_len, scrubL_len, scrubL_len, h.len]
 ·rw [apply_t, apply_t, setT_get, setT_get, scrubL_get, scrubL_get, h.t i hi]
 ·rw [apply_m, apply_m, h.m]
theorem Alk.skip {D : List Nat} {s s' : St} (h : Alk D s s') {d : Option Tmp} {r : AV} (hd : ∀ i, d = some i → i ∈ D) : Alk D s (s'.apply d (.pure r)) := by
 refine ⟨?_, fun i hi => ?_, fun k => ?_⟩
 ·rw [apply_t, setT_len, scrubL_len, h.len]
 ·show _ = (setT s'.t d r)[i]?
  rw [setT_get, if_neg (fun hdi => hi (hd i hdi)), h.t i hi]
 ·exact h.m k
theorem alk_stage {D : List Nat} {L : Nat → Bool} : ∀ (l : List El) (i : Nat) {s s' : St}, Alk D s s' → (∀ k el, l[k]? = some el → L (i + k) = true ∨ ∃ r, el.eff = .pure r ∧ ∀ d, el.o.dst = some d → d ∈ D) → Alk D (stage L i l s) (stage (fun _ => true) i l s')
 |[], i, s, s', h, _ => h
 |el :: l, i, s, s', h, hl => by
  simp only [stage, if_true]
  refine alk_stage l (i + 1) ?_ (fun k e hk => by have := hl (k + 1) e (by simpa using hk); rwa [show i + 1 + k = i + (k + 1) by omega])
  rcases hl 0 el rfl with h0 | ⟨r, hr, hd⟩
  ·rw [Nat.add_zero] at h0
   rw [h0, if_pos rfl]
   exact h.apply el.o.dst el.eff
  ·unfold El.app
   rw [hr]
   by_cases hL : L i = true
   ·rw [if_pos hL]; exact h.apply el.o.dst (.pure r)
   ·rw [if_neg hL]; exact h.skip hd
theorem freeD_spec {B : List (List Nat)} {j : Nat} {nm : List Nat} : ∀ (l : List El) (i : Nat) (D : List Nat), freeD B j nm i l = some D → (∀ d ∈ D, d ∉ nm) ∧ ∀ k el, l[k]? = some el → bef B (i + k) j = true ∨ ∃ r, el.eff = .pure r ∧ ∀ d, el.o.dst = some d → d ∈ D
 |[], i, D, h => by simp only [freeD, Option.some.injEq] at h; subst h; simp
 |el :: l, i, D, h => by
  simp only [freeD] at h
  split at h
  ·cases h
  ·rename_i D0 h0
   obtain ⟨g1, g2⟩ := freeD_spec l (i + 1) D0 h0
   have tailG : ∀ {D' : List Nat}, (∀ d ∈ D0, d ∈ D') → ∀ k e, l[k]? = some e → bef B (i + (k + 1)) j = true ∨ ∃ r, e.eff = .pure r ∧ ∀ d, e.o.dst = some d → d ∈ D' := by
    intro D' hD k e hk
    have := g2 k e hk
    rw [show i + 1 + k = i + (k + 1) by omega] at this
    exact this.imp id (fun ⟨r, h1, h2⟩ => ⟨r, h1, fun d hd => hD d (h2 d hd)⟩)
   split at h
   ·rename_i hb
    cases h
    exact ⟨g1, fun k e hk => by
     cases k with
     |zero => exact .inl hb
     |succ k => exact tailG (fun _ h => h) k e (by simpa using hk)⟩
   ·split at h
    ·rename_i r d hr hd
     split at h
     ·cases h
     ·rename_i hmem
      cases h
      refine ⟨fun d' hd' => ?_, fun k e hk => ?_⟩
      ·rcases List.mem_cons.1 hd' with rfl | hd'
       ·simpa [mem_iff] using hmem
       ·exact g1 d' hd'
      ·cases k with
       |zero =>
        simp at hk; subst hk
        exact .inr ⟨r, hr, fun d' hd' => by rw [hd] at hd'; cases hd'; exact List.mem_cons_self ..⟩
       |succ k => exact tailG (fun _ h => List.mem_cons_of_mem _ h) k e (by simpa using hk)
    ·rename_i r hr hd
     cases h
     refine ⟨g1, fun k e hk => ?_⟩
     cases k with
     |zero =>
      simp at hk; subst hk
      exact .inr ⟨r, hr, fun d' hd' => by rw [hd] at hd'; cases hd'⟩
     |succ k => exact tailG (fun _ h => h) k e (by simpa using hk)
    ·cases h
theorem afters_get {B : List (List Nat)} {j : Nat} : ∀ (n i : Nat), afters B j n i = true → ∀ k, i ≤ k → k < i + n → bef B j k = true
 |0, i, _, k, h1, h2 => by omega
 |n + 1, i, h, k, h1, h2 => by
  simp only [afters, Bool.and_eq_true] at h
  by_cases hk : k = i
  ·subst hk; exact h.1
  ·exact afters_get n (i + 1) h.2 k (by omega) (by omega)
theorem junkT_get (D : List Nat) : ∀ (l : List AV) (n i : Nat), (junkT D n l)[i]? = if mem (n + i) D = true then l[i]?.map (fun _ => AV.junk) else l[i]?
 |[], n, i => by simp [junkT]
 |a :: l, n, 0 => by
  simp only [junkT, List.getElem?_cons_zero, Nat.add_zero]
  split <;> simp
 |a :: l, n, i + 1 => by
  simp only [junkT, List.getElem?_cons_succ]
  rw [junkT_get D l (n + 1) i, show n + 1 + i = n + (i + 1) by omega]
theorem junkT_len (D : List Nat) : ∀ (l : List AV) (n : Nat), (junkT D n l).length = l.length
 |[], n => rfl
 |a :: l, n => by simp only [junkT, List.length_cons, junkT_len D l (n + 1)]
theorem RepL.of_get {x : X} : ∀ {l : List AV} {vs : List Value}, RepL x l vs → ∀ {l' : List AV}, l'.length = l.length → (∀ i : Nat, l'[i]? = l[i]? ∨ l'[i]? = some AV.junk) → RepL x l' vs
 |_, _, .nil, l', hlen, _ => by
  have : l' = [] := List.eq_nil_of_length_eq_zero hlen
  subst this; exact .nil
 |_, _, .cons a v l vs ha hl, [], hlen, _ => by simp at hlen
 |_, _, .cons a v l vs ha hl, b :: l', hlen, hg => by
  refine .cons b v l' vs ?_ (RepL.of_get hl (by simpa using hlen) (fun i => by simpa using hg (i + 1)))
  rcases hg 0 with h | h
  ·simp at h; subst h; exact ha
  ·simp at h; subst h; exact .junk v

open Classical in
theorem draw_sound {Φ : Orc} (hΦ : OSound e.P Φ) (hmix : e.P.follows .mixedOrders = true) {id : Nat} {ops : Array Oper} {K : Ex → St → Option R} {Q : Exit → Act → World → Prop} (hK : KOk e K res Q)
  {s : St} {x : X} {w : World} {a : Act} (hs : StOk e x w s a) (h : regA e.P Φ (fun v s => K (.pan v) s) ops.toList s (fun s => K .normal s) = some res) : (Code.region id ops true).wp e.P Q a w := by
 unfold regA at h
 split at h
 case isFalse => cases h
 rename_i hbk
 rw [befsK_eq] at h
 generalize hB : befs ops.toList [] = B at h
 generalize hst : strikes ops.toList B 0 ops.toList = st at h
 obtain ⟨p, ks⟩ := st
 simp only at h
 have hs0 := hs.strike p ks
 generalize hs0' : Den.strike p ks s = s0 at h hs0
 have fresh : ∀ (l : List El) (sE : St), Chain e.P ops.toList B [] s0 l sE → (∀ j, j < l.length → ops[j]? = (l[j]?).map (·.o)) → Fresh l s0 := by
  intro l sE hc hpre
  have hget : ∀ (j : Nat) (el : El), l[j]? = some el → ops[j]? = some el.o := by
   intro j el h1
   rw [hpre j (List.getElem?_eq_some_iff.1 h1).1, h1]; rfl
  have hpair : ∀ i j a b, i < j → l[i]? = some a → l[j]? = some b → okPair (bef B i j) a b = true := by
   have := hc.pairs (fun i j a b _ h => by simp at h)
   simpa using this
  refine ⟨fun el hel => ?_, ?_⟩
  ·obtain ⟨j, hj⟩ := List.getElem?_of_mem hel
   obtain ⟨eff, want, tch, he⟩ := hc.own j el hj
   have ho : ops.toList[j]? = some el.o := by rw [Array.getElem?_toList]; exact hget j el hj
   have := strikes_get ops.toList B ops.toList 0 j el.o ho el.o eff want tch rfl
   rw [hst] at this
   simp only [List.length_nil] at he
   rw [← he] at this
   rw [← hs0']
   exact strike_clean this.1 this.2 s
  ·rw [List.pairwise_iff_getElem]
   intro i j hi hj hij
   exact okPair_clean (hpair i j _ _ hij (List.getElem?_eq_getElem hi) (List.getElem?_eq_getElem hj))
 refine wp_region_any hmix ?_
 have hcount : (Array.replicate ops.size false).toList.count false ≤ ops.size := by simp
 have hinit : ∀ l : List El, StOk e x w.drew (stage (fun j => (Array.replicate ops.size false).getD j false) 0 l s0) a := by
  intro l
  have e1 : stage (fun j => (Array.replicate ops.size false).getD j false) 0 l s0 = s0 := by
   have : ∀ (l : List El) (n : Nat), stage (fun j => (Array.replicate ops.size false).getD j false) n l s0 = s0 := by
    intro l
    induction l with
    |nil => intro n; rfl
    |cons e l ih =>
     intro n
     have hd : (Array.replicate ops.size false).getD n false = false := by
      by_cases hj : n < ops.size <;> simp [hj]
     simp only [stage, hd, Bool.false_eq_true, if_false]; exact ih (n + 1)
   exact this l 0
  rw [e1]
  exact ⟨hs0.inv.drew, hs0.tmps, hs0.defers⟩
 have hnone : ∀ j, (Array.replicate ops.size false).getD j false ≠ true := by
  intro j hL
  by_cases hj : j < ops.size <;> simp [hj] at hL
 rcases regD_chain hΦ _ _ _ h with ⟨l, sE, hc, hl, hk⟩ | ⟨l, sE, o, rest, D, eff, hc, hl, hgn, ⟨Φ', hΦ', hgive⟩, haft, hfree, hk⟩
 ·have hlen : l.length = ops.size := by rw [← Array.length_toList, ← hl, List.length_map]
  have hpre : ∀ j, j < l.length → ops[j]? = (l[j]?).map (·.o) := by
   intro j _
   rw [← Array.getElem?_toList, ← hl, List.getElem?_map]
  refine draw_main ops hB hbk hc hpre (by omega) (fresh l sE hc hpre) ?_ ?_ ops.size (Array.replicate ops.size false) a _ x (by simp) hcount (fun j o _ hL => absurd hL (hnone j)) (fun i hi => absurd hi (hnone i)) (hinit l)
  ·intro listed a w x hsz hr hin hs
   rw [stage_congr (L' := fun _ => true) l 0 s0 (fun j _ hj => ready_nil hbk hsz hr j j (Nat.le_refl _) (by omega)), hc.done 0] at hs
   exact hK _ _ _ x w a hk hs .normal
  ·intro listed a w x j K' hsz hj hle
   exfalso
   obtain ⟨_, o, ho, _⟩ := mem_ready.1 hj
   have := (Array.getElem?_eq_some_iff.1 ho).1
   omega
 ·have hsize : l.length < ops.size := by
   rw [← Array.length_toList, hl]; simp
  have hpre : ∀ j, j < l.length → ops[j]? = (l[j]?).map (·.o) := by
   intro j hj
   rw [← Array.getElem?_toList, hl, List.getElem?_append_left (by simpa using hj), List.getElem?_map]
  have ho : ops[l.length]? = some o := by
   rw [← Array.getElem?_toList, hl, List.getElem?_append_right (by simp)]; simp
  simp only [List.nil_append] at haft hfree
  obtain ⟨hD1, hD2⟩ := freeD_spec l 0 D hfree
  refine draw_main ops hB hbk hc hpre (by omega) (fresh l sE hc hpre) ?_ ?_ ops.size (Array.replicate ops.size false) a _ x (by simp) hcount (fun j o _ hL => absurd hL (hnone j)) (fun i hi => absurd hi (hnone i)) (hinit l)
  ·intro listed a w x hsz hr hin hs
   exfalso
   have := hin l.length (ready_nil hbk hsz hr l.length l.length (Nat.le_refl _) hsize)
   omega
  ·intro listed a w x j K' hsz hj hle hd hin hs
   obtain ⟨_, o', ho', hj2⟩ := mem_ready.1 hj
   have hjlt : j < ops.size := (Array.getElem?_eq_some_iff.1 ho').1
   have hbind : ∀ i ∈ bindsOf o'.after.toList, listed.getD i false = true := by
    intro i hi
    obtain ⟨ed, h1, h2, rfl⟩ := bindsOf_mem.1 hi
    exact hj2 ed (by simpa using h1) h2
   have hoj : ops.toList[j]? = some o' := by rw [Array.getElem?_toList]; exact ho'
   have hbefj : ∀ i, bef B i j = true → listed.getD i false = true := by
    intro i hb
    rw [← hB] at hb
    exact hd.bef j j (Nat.le_refl _) i o' hoj hbind hb
   by_cases hjl : j = l.length
   ·subst hjl
    rw [ho] at ho'
    cases ho'
    have hal : Alk D (stage (fun j => listed.getD j false) 0 l s0) sE := by
     rw [← hc.done 0]
     refine alk_stage l 0 ⟨rfl, fun _ _ => rfl, fun _ => rfl⟩ (fun k el hk => (hD2 k el hk).imp (fun hb => hbefj _ hb) (fun h => h))
    unfold wpOp
    rw [ho]
    simp only
    rw [if_pos (by simp [Region.wanted, hgn])]
    left
    have hop' := hgive Unit (fun _ => none) (fun e => if e = eff then some () else none)
    rw [opE_congr (t' := (stage (fun j => listed.getD j false) 0 l s0).t) (m' := (stage (fun j => listed.getD j false) 0 l s0).m)
     (fun y hy ty => ?_) (fun k _ => (hal.m k).symm)] at hop'
    ·simp only [if_true] at hop'
     refine op_sound hΦ' hs.inv hs.tmps (fun eff x' w' v h1 => by cases h1) ?_ hop'
     intro eff' x' w' v h1 ha
     by_cases he : eff' = eff
     ·subst he
      obtain ⟨g1, g2⟩ := hs.apply_none ha
      have hal' := hal.apply none eff'
      refine hK (.pan eff'.val) _ _ x' w' a hk ⟨g1.inv.congr (fun k => ?_), ?_, g1.defers⟩ (.pan _ v g2)
      ·rw [hal'.m k, apply_m, apply_m]
      ·refine g1.tmps.of_get ?_ (fun i => ?_)
       ·rw [apply_t, apply_t, setT_len, setT_len, scrubL_len, scrubL_len, junkT_len, hal.len]
       ·rw [apply_t, apply_t]
        show (AV.scrubL _ _ (junkT D 0 sE.t))[i]? = (AV.scrubL _ _ _)[i]? ∨ _
        rw [scrubL_get, scrubL_get, junkT_get, Nat.zero_add]
        by_cases hi : mem i D = true
        ·rw [if_pos hi]
         cases hx : sE.t[i]? with
         |none =>
          left
          have : (stage (fun j => listed.getD j false) 0 l s0).t[i]? = none := by
           rw [List.getElem?_eq_none_iff, hal.len, ← List.getElem?_eq_none_iff]; exact hx
          rw [this]; rfl
         |some y => right; show (AV.scrubL _ _ (junkT D 0 sE.t))[i]? = some .junk; rw [scrubL_get, junkT_get, Nat.zero_add, if_pos hi, hx]; rfl
        ·rw [if_neg hi]
         left
         rw [hal.t i (fun hmem => hi (mem_iff.2 hmem))]
     ·simp only [if_neg he] at h1; cases h1
    ·cases y with
     |tmp d =>
      have hdm : d ∈ names ops.toList o := by
       unfold names
       rw [hgn]
       exact tmpsOf_mem hy
      exact (hal.t d (fun hm => hD1 d hm hdm)).symm
     |_ => rfl
   ·exfalso
    have hlt : j < l.length + 1 + (ops.toList.length - (l.length + 1)) := by rw [show ops.toList.length = ops.size from Array.length_toList]; omega
    have h1 := afters_get _ _ haft j (by omega) hlt
    have := hin l.length (hbefj l.length h1)
    omega
end Go.Den
namespace Go.Den
open Go.ChangeShapes Go.WideShapes Go.RowKit

def structT (P : Program) (g : TypeId → Option (List Kd)) : Nat → List Field → Option (List Kd)
 |_, [] => some []
 |off, f :: fs => match g f.type with
  |some ks => if Nat.beq f.offset off && Nat.beq (P.cellsOf f.type) ks.length then (match structT P g (off + ks.length) fs with | some l => some (ks ++ l) | none => none) else none
  |none => none
def Kd.wide : Kd → Nat × Nat
 | .b => (1, 1)
 | .i k => (k.bits / 8, k.bits / 8)
 | .s => (16, 8)
 | .sl _ => (24, 8)
 | .o => (8, 8)
def laidTo : List Kd → Nat → Nat → Nat
 |[], off, al => (off + al - 1) / al * al
 |k :: ks, off, al => laidTo ks ((off + k.wide.2 - 1) / k.wide.2 * k.wide.2 + k.wide.1) (max al k.wide.2)
def kbytes (ks : List Kd) : Nat := laidTo ks 0 1
def kdsT (P : Program) : Nat → TypeId → Option (List Kd)
 |0, _ => none
 |n + 1, t => match P.underlying t with
  |some .bool => some [.b]
  |some (.int k) => some [.i k]
  |some .string => some [.s]
  |some (.slice e) => match kdsT P n e with
   |some ks => if Nat.beq (P.cellsOf e) ks.length && Nat.blt 0 ks.length && Nat.blt 0 (P.bytesOf e) && Nat.ble (kbytes ks) (P.bytesOf e) then some [.sl ks] else none
   |none => none
  |some (.struct fs) => match structT P (kdsT P n) 0 fs.toList with
   |some ks => if Nat.beq (P.cellsOf t) ks.length then some ks else none
   |none => none
  |some (.array l e) => match kdsT P n e with
   |some ks => if Nat.beq (P.cellsOf e) ks.length && Nat.beq (P.cellsOf t) (l * ks.length) then some (List.flatten (List.replicate l ks)) else none
   |none => none
  |_ => none

mutual
def DV.Fine : DV → Prop
 | .val (.int k n) => (Lit.int k n).wf = true
 | .val (.string s) => s.size ≤ reachBytes
 | .val _ => True
 | .sl nl ks rows => rows.length ≤ reachBytes ∧ (nl = true → rows = []) ∧ RowsFine ks rows ∧ rows.length * kbytes ks ≤ reachBytes
def RowFine : List DV → Prop
 |[] => True
 |d :: r => d.Fine ∧ RowFine r
def RowsFine (ks : List Kd) : List (List DV) → Prop
 |[] => True
 |r :: l => Row.ofKds ks r = true ∧ RowFine r ∧ RowsFine ks l
end
theorem RowFine.append : ∀ {r : Row}, RowFine r → ∀ {r' : Row}, RowFine r' → RowFine (r ++ r')
 |[], _, _, h => h
 |d :: r, h, _, h' => by
  unfold RowFine at h ⊢
  exact ⟨h.1, h.2.append h'⟩
mutual
theorem sameK : ∀ (k : Kd), Kd.same k k = true
 | .b => rfl
 | .i k => by simp [Kd.same]
 | .s => rfl
 | .sl a => by unfold Kd.same; exact sameKL a
 | .o => rfl
theorem sameKL : ∀ (l : List Kd), Kd.sameL l l = true
 |[] => rfl
 |k :: l => by unfold Kd.sameL; rw [sameK k, sameKL l]; rfl
end

section
variable {H : Type} {enc : TypeId × Value → H} {P : Program} {w : World} {spare : Nat → Bool} {held : Bool}
def cellsM (w : World) : Mm := fun b o => w.cell? ⟨b, o, none⟩
def Opens (w : World) (ks : List Kd) (cs : List Value) : Prop := ∃ row : Row, Row.ofKds ks row = true ∧ CellsV (cellsM w) row cs ∧ RowFine row

theorem open_fields {m : Nat} {cs : List Value} {g : TypeId → Option (List Kd)}
  (ih : ∀ t ks cs x, g t = some ks → DataW.trod enc P w 0 spare held m t cs = some x → (∀ q ∈ x.1.weights P t, q ≤ reachBytes) → Opens w ks cs) :
  ∀ (fl : List Field) (xl : List (DataW H × List MemPlace)) (off : Nat) (ks : List Kd), structT P g off fl = some ks → xl.length = fl.length →
   (∀ (i : Nat) (f : Field), fl[i]? = some f → DataW.trod enc P w 0 spare held m f.type ((cs.drop f.offset).take (P.cellsOf f.type)) = xl[i]?) →
   (∀ q ∈ DataW.weightsEach P (fl.map (·.type)) (xl.map (·.1)), q ≤ reachBytes) → Opens w ks ((cs.drop off).take ks.length)
 |[], xl, off, ks, hg, _, _, _ => by
  simp only [structT] at hg
  cases hg
  exact ⟨[], rfl, by simpa using CellsV.nil, trivial⟩
 |f :: fl, [], off, ks, hg, hlen, _, _ => by simp at hlen
 |f :: fl, x :: xl, off, ks, hg, hlen, hx, hw => by
  simp only [structT] at hg
  split at hg
  ·rename_i k0 hk0
   split at hg
   ·rename_i hc
    split at hg
    ·rename_i l hl
     cases hg
     simp only [Bool.and_eq_true, beq_eq] at hc
     have h0 := hx 0 f rfl
     rw [hc.1, hc.2] at h0
     simp only [List.getElem?_cons_zero] at h0
     simp only [List.map_cons, DataW.weightsEach, List.mem_append] at hw
     obtain ⟨r0, a1, a2, a3⟩ := ih f.type k0 _ x hk0 h0 (fun q hq => hw q (.inl hq))
     obtain ⟨r1, b1, b2, b3⟩ := open_fields ih fl xl (off + k0.length) l hl (by simpa using hlen) (fun i f' hf => by have := hx (i + 1) f' (by simpa using hf); simpa using this) (fun q hq => hw q (.inr hq))
     refine ⟨r0 ++ r1, ofKds_append a1 b1, ?_, a3.append b3⟩
     rw [List.length_append, List.take_add, List.drop_drop]
     exact a2.append b2
    ·cases hg
   ·cases hg
  ·cases hg

theorem weights_all_mem {e : TypeId} : ∀ {l : List (DataW H)} {d : DataW H}, d ∈ l → ∀ q ∈ d.weights P e, q ∈ DataW.weightsAll P e l
 |c :: l, d, h, q, hq => by
  simp only [DataW.weightsAll, List.mem_append]
  rcases List.mem_cons.1 h with h | h
  ·subst h; exact .inl hq
  ·exact .inr (weights_all_mem h q hq)

theorem open_array {m : Nat} {cs : List Value} {e : TypeId} {k0 : List Kd}
  (ih : ∀ cs x, DataW.trod enc P w 0 spare held m e cs = some x → (∀ q ∈ x.1.weights P e, q ≤ reachBytes) → Opens w k0 cs) :
  ∀ (l : Nat) (xl : List (DataW H × List MemPlace)) (off : Nat), xl.length = l →
   (∀ i, i < l → DataW.trod enc P w 0 spare held m e ((cs.drop (off + i * k0.length)).take k0.length) = xl[i]?) →
   (∀ x ∈ xl, ∀ q ∈ x.1.weights P e, q ≤ reachBytes) → Opens w (List.flatten (List.replicate l k0)) ((cs.drop off).take (l * k0.length))
 |0, xl, off, _, _, _ => ⟨[], rfl, by simpa using CellsV.nil, trivial⟩
 |l + 1, [], off, hlen, _, _ => by simp at hlen
 |l + 1, x :: xl, off, hlen, hx, hw => by
  have h0 := hx 0 (by omega)
  simp only [Nat.zero_mul, Nat.add_zero, List.getElem?_cons_zero] at h0
  obtain ⟨r0, a1, a2, a3⟩ := ih _ x h0 (hw x (List.mem_cons_self ..))
  obtain ⟨r1, b1, b2, b3⟩ := open_array ih l xl (off + k0.length) (by simpa using hlen) (fun i hi => by
   have := hx (i + 1) (by omega)
   simp only [List.getElem?_cons_succ] at this
   rw [← this, Nat.add_mul]; congr 3; omega) (fun y hy => hw y (List.mem_cons_of_mem _ hy))
  refine ⟨r0 ++ r1, by rw [List.replicate_succ, List.flatten_cons]; exact ofKds_append a1 b1, ?_, a3.append b3⟩
  rw [Nat.add_mul, Nat.one_mul, Nat.add_comm, List.take_add, List.drop_drop]
  exact a2.append b2

theorem CellsV.at {w : World} {b : Nat} : ∀ {r : Row} {cs : List Value} {o : Nat}, CellsV (cellsM w) r cs → (∀ i, i < cs.length → w.cell? ⟨b, o + i, none⟩ = cs[i]?) → CellsAt (cellsM w) b o r
 |_, _, o, .nil, _ => .nil b o
 |_, _, o, .cons d v r vs h1 h2, h => by
  refine .cons b o d v r ?_ h1 (h2.at fun i hi => ?_)
  ·have := h 0 (by simp); simpa [cellsM] using this
  ·have := h (i + 1) (by simp; omega)
   simp only [List.getElem?_cons_succ] at this
   rw [← this]; congr 2; omega

theorem open_rows {m : Nat} {e : TypeId} {k0 : List Kd} {b : Nat} (hc : P.cellsOf e = k0.length)
  (ih : ∀ cs x, DataW.trod enc P w 0 spare held m e cs = some x → (∀ q ∈ x.1.weights P e, q ≤ reachBytes) → Opens w k0 cs) :
  ∀ (xl : List (DataW H × List MemPlace)) (o : Nat), (∀ i, i < xl.length → (w.cells? 0 ⟨b, o + i * k0.length, none⟩ k0.length).bind (DataW.trod enc P w 0 spare held m e) = xl[i]?) →
   (∀ x ∈ xl, ∀ q ∈ x.1.weights P e, q ≤ reachBytes) → ∃ rows : Rows, rows.length = xl.length ∧ RowsAt (cellsM w) b o k0 rows ∧ RowsFine k0 rows
 |[], o, _, _ => ⟨[], rfl, .nil b o k0, trivial⟩
 |x :: xl, o, hx, hw => by
  have h0 := hx 0 (by simp)
  simp only [Nat.zero_mul, Nat.add_zero, List.getElem?_cons_zero] at h0
  obtain ⟨cs, h1, h2⟩ := Option.bind_eq_some_iff.1 h0
  obtain ⟨_, hl, hcell⟩ := World.cells?_some h1
  obtain ⟨r0, a1, a2, a3⟩ := ih _ x h2 (hw x (List.mem_cons_self ..))
  obtain ⟨rows, b1, b2, b3⟩ := open_rows hc ih xl (o + k0.length) (fun i hi => by
   have := hx (i + 1) (by simp; omega)
   simp only [List.getElem?_cons_succ] at this
   rw [← this, Nat.add_mul]; congr 3; omega) (fun y hy => hw y (List.mem_cons_of_mem _ hy))
  refine ⟨r0 :: rows, by simp [b1], .cons b o k0 r0 rows a1 (a2.at fun i hi => ?_) b2, ?_⟩
  ·rw [← hcell i (by omega)]
   unfold Addr.add
   by_cases h : i = 0
   ·subst h; rfl
   ·rw [if_neg h]
  ·unfold RowsFine; exact ⟨a1, a3, b3⟩

theorem open_row : ∀ (n : Nat) (t : TypeId) (ks : List Kd) (fuel : Nat) (cs : List Value) (x : DataW H × List MemPlace), kdsT P n t = some ks → DataW.trod enc P w 0 spare held fuel t cs = some x →
  (∀ q ∈ x.1.weights P t, q ≤ reachBytes) → Opens w ks cs
 |0, t, ks, fuel, cs, x, hk, _, _ => by simp [kdsT] at hk
 |n + 1, t, ks, fuel, cs, x, hk, h, hw => by
  simp only [kdsT] at hk
  split at hk
  ·rename_i hu
   cases hk
   obtain ⟨b, rfl, rfl⟩ := DataW.trod_bool hu h
   exact ⟨[.val (.bool b)], rfl, .cons _ _ _ _ (.val _ rfl) .nil, trivial, trivial⟩
  ·rename_i k hu
   cases hk
   obtain ⟨i, rfl, rfl, hf⟩ := DataW.trod_int hu h
   exact ⟨[.val (.int k i)], by simp [Row.ofKds, DV.ofKd], .cons _ _ _ _ (.val _ rfl) .nil, hf, trivial⟩
  ·rename_i hu
   cases hk
   obtain ⟨s, rfl, rfl, hs⟩ := DataW.trod_string hu h
   refine ⟨[.val (.string s)], rfl, .cons _ _ _ _ (.val _ rfl) .nil, ?_, trivial⟩
   have := hw s.data.toList.length (by simp [DataW.weights])
   simpa [DV.Fine] using this
  ·rename_i e hu
   split at hk
   ·rename_i k0 hk0
    split at hk
    ·rename_i hc
     cases hk
     simp only [Bool.and_eq_true, beq_eq, Nat.blt_eq, Nat.ble_eq] at hc
     obtain ⟨⟨⟨hc1, hc2⟩, hc3⟩, hc4⟩ := hc
     rcases DataW.trod_slice hu h with ⟨rfl, rfl⟩ | ⟨a, len, cap, elems, rest, m, rfl, rfl, rfl, _, hlc, hcm, hlen, hel, _, _⟩
     ·exact ⟨[.sl true k0 []], by simp [Row.ofKds, DV.ofKd, sameKL], .cons _ _ _ _ (.nil k0) .nil, ⟨Nat.zero_le _, fun _ => rfl, trivial, by rw [List.length_nil, Nat.zero_mul]; exact Nat.zero_le _⟩, trivial⟩
     ·simp only [DataW.weights, hu] at hw
      have hbig := hw _ (List.mem_cons_self ..)
      simp only [List.length_map] at hbig
      have hsz : elems.length ≤ reachBytes := by
       refine Nat.le_trans ?_ hbig
       exact Nat.le_trans (Nat.le_add_right _ rest.length) (Nat.le_mul_of_pos_right _ hc3)
      have hkb : elems.length * kbytes k0 ≤ reachBytes := Nat.le_trans (Nat.mul_le_mul (Nat.le_add_right _ rest.length) hc4) hbig
      have hw' : ∀ x ∈ elems, ∀ q ∈ x.1.weights P e, q ≤ reachBytes := fun x hx q hq => hw q (List.mem_cons_of_mem _ (List.mem_append_left _ (weights_all_mem (List.mem_map_of_mem hx) q hq)))
      have ih : ∀ cs x, DataW.trod enc P w 0 spare held m e cs = some x → (∀ q ∈ x.1.weights P e, q ≤ reachBytes) → Opens w k0 cs := fun cs x h1 h2 => open_row n e k0 m cs x hk0 h1 h2
      by_cases h0 : len = 0
      ·subst h0
       have : elems = [] := List.eq_nil_of_length_eq_zero hlen
       subst this
       refine ⟨[.sl false k0 []], by simp [Row.ofKds, DV.ofKd, sameKL], .cons _ _ _ _ (.sl k0 [] a cap (by simp) (fun h => absurd rfl h) (.nil _ _ _)) .nil, ⟨Nat.zero_le _, fun _ => rfl, trivial, by rw [List.length_nil, Nat.zero_mul]; exact Nat.zero_le _⟩, trivial⟩
      ·have hspot : a.spot = none := by
        have h1 := hel 0 (by omega)
        have hx0 : ∃ y, elems[0]? = some y := ⟨elems[0]'(by omega), by simp⟩
        obtain ⟨y, hy⟩ := hx0
        rw [hy] at h1
        obtain ⟨cs, h2, _⟩ := Option.bind_eq_some_iff.1 h1
        obtain ⟨_, hl2, hcell⟩ := World.cells?_some h2
        have := hcell 0 (by omega)
        rw [List.getElem?_eq_getElem (by omega)] at this
        simp only [Nat.zero_mul, Addr.add, if_true] at this
        unfold World.cell? at this
        split at this
        ·split at this
         ·cases this
         ·rename_i hs; simpa using hs
        ·cases this
       obtain ⟨ab, ao, asp⟩ := a
       simp only at hspot
       subst hspot
       obtain ⟨rows, b1, b2, b3⟩ := open_rows (b := ab) hc1 ih elems ao (fun i hi => by
        rw [← hel i (by omega), hc1]
        congr 2
        unfold Addr.add
        by_cases h : i * k0.length = 0
        ·rw [if_pos h, h, Nat.add_zero]
        ·rw [if_neg h]) hw'
       refine ⟨[.sl false k0 rows], by simp [Row.ofKds, DV.ofKd, sameKL], .cons _ _ _ _ ?_ .nil, ⟨by omega, by simp, b3, by rw [b1]; exact hkb⟩, trivial⟩
       rw [← hlen, ← b1]
       exact .sl k0 rows ⟨ab, ao, none⟩ cap (by omega) (fun _ => rfl) b2
    ·cases hk
   ·cases hk
  ·rename_i fs hu
   split at hk
   ·rename_i k0 hk0
    split at hk
    ·rename_i hc
     cases hk
     simp only [beq_eq] at hc
     obtain ⟨xs, m, rfl, rfl, hl, hxs, hx⟩ := DataW.trod_struct hu h
     simp only [DataW.weights, hu] at hw
     have := open_fields (cs := cs) (m := m) (g := kdsT P n) (fun t ks cs x h0 h1 h2 => open_row n t ks m cs x h0 h1 h2) fs.toList xs 0 ks hk0 (by simpa using hxs) (fun i f hf => hx i f (by simpa using hf)) hw
     rw [← hc, ← hl] at this
     simpa using this
    ·cases hk
   ·cases hk
  ·rename_i l e hu
   split at hk
   ·rename_i k0 hk0
    split at hk
    ·rename_i hc
     cases hk
     simp only [Bool.and_eq_true, beq_eq] at hc
     obtain ⟨xs, m, rfl, rfl, hl, hxs, hx⟩ := DataW.trod_array hu h
     simp only [DataW.weights, hu] at hw
     have := open_array (cs := cs) (m := m) (e := e) (k0 := k0) (fun cs x h1 h2 => open_row n e k0 m cs x hk0 h1 h2) l xs 0 hxs (fun i hi => by rw [Nat.zero_add, ← hc.1]; exact hx i hi)
      (fun x hx q hq => hw q (weights_all_mem (List.mem_map_of_mem hx) q hq))
     rw [← hc.2, ← hl] at this
     simpa using this
    ·cases hk
   ·cases hk
  ·cases hk
end

theorem cells_shift (d : DV) (r : Row) : ∀ (ks : List Kd) (j : Nat), Row.cells (d :: r) ks (j + 1) = Row.cells r ks j
 |[], j => rfl
 |k :: ks, j => by
  simp only [Row.cells]
  rw [cells_shift d r ks (j + 1)]
  congr 1
theorem rep_cells {M : Mm} {loc : Nat → Option Nat} {tk : Nat → Option (Value × List Kd)} {cap : Nat → Nat} {M0 : Mm} : ∀ {r : Row} {vs : List Value}, CellsV M r vs → ∀ {ks : List Kd}, Row.ofKds ks r = true → RepL ⟨M, loc, tk, cap, M0⟩ (Row.cells r ks 0) vs
 |_, _, .nil, [], _ => .nil
 |_, _, .nil, _ :: _, h => by simp [Row.ofKds] at h
 |_, _, .cons d v r vs h1 h2, [], h => by simp [Row.ofKds] at h
 |_, _, .cons d v r vs h1 h2, k :: ks, h => by
  simp only [Row.ofKds, Bool.and_eq_true] at h
  simp only [Row.cells]
  refine .cons _ _ _ _ ?_ ?_
  ·exact rep_cellD (d := d) h.1 h1
  ·rw [cells_shift]; exact rep_cells h2 h.2

def argA (P : Program) (t : TypeId) (ks : List Kd) (r : Row) : AV :=
 match agg? P t, ks with
 |some true, ks => .agg (Row.cells r ks 0)
 |_, k :: _ => Row.cell k r 0
 |_, [] => .junk
def argsA (P : Program) : List TypeId → List Row → List AV
 |t :: ts, r :: rs => match kdsT P 9 t with
  |some ks => argA P t ks r :: argsA P ts rs
  |none => []
 |_, _ => []
def Fits (P : Program) : List TypeId → List Row → Prop
 |t :: ts, r :: rs => (∃ ks, kdsT P 9 t = some ks ∧ Row.ofKds ks r = true ∧ RowFine r) ∧ Fits P ts rs
 |[], [] => True
 |_, _ => False

section
variable {H : Type} {enc : TypeId × Value → H} {P : Program} {w : World} {spare : Nat → Bool} {held : Bool}
theorem open_arg {t : TypeId} {ks : List Kd} {v : Value} {d : DataW H} {p : List MemPlace} {b0 : Nat} {loc : Nat → Option Nat} {tk : Nat → Option (Value × List Kd)} {cap : Nat → Nat} {M0 : Mm} (hk : kdsT P 9 t = some ks) (hval : Value.okWide P w .any b0 t v) (h : DataW.Trod enc P w 0 spare held t v d p)
  (hw : ∀ q ∈ d.weights P t, q ≤ reachBytes) : ∃ row, Row.ofKds ks row = true ∧ RowFine row ∧ Rep ⟨cellsM w, loc, tk, cap, M0⟩ (argA P t ks row) v := by
 obtain ⟨fuel, hf⟩ := h
 obtain ⟨row, h1, h2, h3⟩ := open_row 9 t ks fuel _ _ hk hf hw
 refine ⟨row, h1, h3, ?_⟩
 have one : ∀ k, ks = [k] → agg? P t = some false → v.cells = #[v] → Rep ⟨cellsM w, loc, tk, cap, M0⟩ (argA P t ks row) v := by
  intro k hks hag hv
  subst hks
  rw [hv] at h2
  unfold argA
  rw [hag]
  cases h2 with
  |cons d' _ r vs g1 g2 =>
   simp only [Row.ofKds, Bool.and_eq_true] at h1
   exact rep_cellD (d := d') h1.1 g1
 have hk' := hk
 rw [show (9 : Nat) = 8 + 1 from rfl] at hk'
 simp only [kdsT] at hk'
 split at hk'
 ·rename_i hu; cases hk'; obtain ⟨b, rfl⟩ := okWide_bool hu hval; exact one _ rfl (by simp [agg?, hu]) rfl
 ·rename_i k hu; cases hk'; obtain ⟨b, rfl⟩ := okWide_int hu hval; exact one _ rfl (by simp [agg?, hu]) rfl
 ·rename_i hu; cases hk'; obtain ⟨b, rfl⟩ := okWide_string hu hval; exact one _ rfl (by simp [agg?, hu]) rfl
 ·rename_i e hu
  split at hk'
  ·split at hk'
   ·cases hk'; obtain ⟨a, l, c, rfl⟩ := okWide_slice hu hval; exact one _ rfl (by simp [agg?, hu]) rfl
   ·cases hk'
  ·cases hk'
 ·rename_i fs hu
  simp only [Value.okWide, hu] at hval
  obtain ⟨cs, rfl, _, _⟩ := hval
  have hag : agg? P t = some true := by simp [agg?, hu]
  unfold argA
  rw [hag]
  obtain ⟨l⟩ := cs
  exact .agg _ l (rep_cells (by simpa [Value.cells] using h2) h1)
 ·rename_i l e hu
  simp only [Value.okWide, hu] at hval
  obtain ⟨cs, rfl, _, _⟩ := hval
  have hag : agg? P t = some true := by simp [agg?, hu]
  unfold argA
  rw [hag]
  obtain ⟨l⟩ := cs
  exact .agg _ l (rep_cells (by simpa [Value.cells] using h2) h1)
 ·cases hk'

theorem open_args {b0 : Nat} {loc : Nat → Option Nat} {tk : Nat → Option (Value × List Kd)} {cap : Nat → Nat} {M0 : Mm} : ∀ (ts : List TypeId) (vs : List Value) (ds gs : List (DataW H)) (ts' : List TypeId) (p : List MemPlace), (∀ t ∈ ts, (kdsT P 9 t).isSome = true) →
  (∀ (j : Nat) t v, ts[j]? = some t → vs[j]? = some v → Value.okWide P w .any b0 t v) → DataW.TrodAll enc P w 0 spare held ts vs ds p → (∀ q ∈ DataW.weightsEach P (ts ++ ts') (ds ++ gs), q ≤ reachBytes) →
  ∃ rows, Fits P ts rows ∧ RepL ⟨cellsM w, loc, tk, cap, M0⟩ (argsA P ts rows) vs
 |[], vs, ds, gs, ts', p, _, _, h, _ => by
  obtain ⟨rfl, rfl, rfl⟩ := trodAll_nil h
  exact ⟨[], trivial, .nil⟩
 |t :: ts, vs, ds, gs, ts', p, hk, hval, h, hw => by
  obtain ⟨v, vs', d, ds', p', q', rfl, rfl, rfl, h1, h2⟩ := trodAll_cons h
  obtain ⟨ks, hks⟩ := Option.isSome_iff_exists.1 (hk t (List.mem_cons_self ..))
  simp only [List.cons_append, DataW.weightsEach, List.mem_append] at hw
  obtain ⟨row, a1, a2, a3⟩ := open_arg hks (hval 0 t v rfl rfl) h1 (fun q hq => hw q (.inl hq))
  obtain ⟨rows, b1, b2⟩ := open_args ts vs' ds' gs ts' q' (fun t ht => hk t (List.mem_cons_of_mem _ ht)) (fun j t v ht hv => hval (j + 1) t v (by simpa using ht) (by simpa using hv)) h2 (fun q hq => hw q (.inr hq))
  refine ⟨row :: rows, ⟨⟨ks, hks, a1, a2⟩, b1⟩, ?_⟩
  simp only [argsA, hks]
  exact .cons _ _ _ _ a3 b2

theorem back_args {w' : World} (hl : laidOutB P = true) (hb : Below w.heap.size w w') : ∀ (ts : List TypeId) (vs : List Value) (ds : List (DataW H)) (p : List MemPlace), (∀ t ∈ ts, P.readableRec t = true ∧ t < P.types.size) →
  DataW.TrodAll enc P w 0 (fun _ => true) true ts vs ds p → DataW.TrodAll enc P w' 0 (fun b => decide (b < w.heap.size)) true ts vs ds p
 |[], vs, ds, p, _, h => by
  obtain ⟨rfl, rfl, rfl⟩ := trodAll_nil h
  exact trodAll_mk0
 |t :: ts, vs, ds, p, hk, h => by
  obtain ⟨v, vs', d, ds', p', q', rfl, rfl, rfl, h1, h2⟩ := trodAll_cons h
  have hlt : ∀ x ∈ p', x.block < w.heap.size := by obtain ⟨m, hm⟩ := h1; exact DataW.trod_lt m _ _ _ hm
  exact trodAll_cons_mk (Below.trod hl (hk t (List.mem_cons_self ..)).1 (hk t (List.mem_cons_self ..)).2 h1 hb hlt) (back_args hl hb ts vs' ds' q' (fun t ht => hk t (List.mem_cons_of_mem _ ht)) h2)
end
end Go.Den
namespace Go.Den
open Go.ChangeShapes Go.WideShapes Go.RowKit

theorem fn_ok {P : Program} {Φ : Orc} (hΦ : OSound P Φ) (hmix : P.follows .mixedOrders = true) {f : FuncId} {fn : Func} (hf : P.funcs[f]? = some fn) (hname : fn.name ≠ "runtime.NumGoroutine") {lv : Live} {n : Nat} {keep : Bool}
  {args : List AV} {ext : List (List AV)} {out : Out} (h : denFn P Φ lv n fn keep args ext some = some out) : Contract P f args ext out :=
 fn_sound hΦ (fun e he id ops K res Q hK s x w a hs hr => by subst he; exact draw_sound hΦ hmix hK hs hr) hf hname h

theorem inv_start (P : Program) (w : World) (hG : GlobOk ⟨P, w, ⟨cellsM w, fun _ => none, fun _ => none, fun _ => 0, cellsM w⟩, [], [], []⟩) : Inv ⟨P, w, ⟨cellsM w, fun _ => none, fun _ => none, fun _ => 0, cellsM w⟩, [], [], []⟩ ⟨cellsM w, fun _ => none, fun _ => none, fun _ => 0, cellsM w⟩ w (zipExt 1000 []) where
 sub _ _ _ h := h
 slot k cs h := by simp [zipExt, lookup] at h
 inj k k' cs cs' b h := by simp [zipExt, lookup] at h
 tok k v sz h := by cases h
 tokslot k a n c sz j cs h := by cases h
 toktok k k' a n c sz a' n' c' sz' h := by cases h
 os := rfl
 tape := rfl
 output := rfl
 size := Nat.le_refl _
 old _ _ _ _ := rfl
 mono := Sub.refl _
 new _ _ _ h := .inl h
 ext _ _ := rfl
 more := ⟨fun k b cs h => by simp [zipExt, lookup] at h, fun _ _ => rfl, rfl, fun k b cs arr ty h => by simp [zipExt, lookup] at h, Nat.le_refl _⟩
 glob := hG
 low b o v hv := by
  have hv' : w.cell? ⟨b, o, none⟩ = some v := hv
  unfold World.cell? at hv'
  split at hv'
  ·rename_i hb; exact (Array.getElem?_eq_some_iff.1 hb).1
  ·simp at hv'

theorem trodAll_length {H : Type} {enc : TypeId × Value → H} {P : Program} {w : World} {spare : Nat → Bool} {held : Bool} : ∀ (ts : List TypeId) (vs : List Value) (ds : List (DataW H)) (p : List MemPlace), DataW.TrodAll enc P w 0 spare held ts vs ds p → ds.length = ts.length
 |[], vs, ds, p, h => by obtain ⟨_, rfl, _⟩ := trodAll_nil h; rfl
 |t :: ts, vs, ds, p, h => by
  obtain ⟨v, vs', d, ds', p', q', rfl, rfl, rfl, h1, h2⟩ := trodAll_cons h
  simp [trodAll_length ts vs' ds' q' h2]

end Go.Den
namespace Go.Den
variable {P : Program} {Φ : Orc}

def Pick (Φ : Orc) : Prop := ∀ (R : Type) (f : FuncId) (args : List AV) (ext : List (List AV)) (k : Out → Option R) (r : R), Φ.call R f args ext k = some r → ∃ out, k out = some r ∧ ∀ (R' : Type) (k' : Out → Option R'), Φ.call R' f args ext k' = k' out

def Gone {R : Type} (k kp : Eff → Option R) (r : R) (F : (R' : Type) → (Eff → Option R') → (Eff → Option R') → Option R') : Prop :=
 (∃ eff, k eff = some r ∧ ∀ R' k' kp', F R' k' kp' = k' eff) ∨ (∃ eff, kp eff = some r ∧ ∀ R' k' kp', F R' k' kp' = kp' eff)

theorem opE_gone (hΦ : Pick Φ) {R : Type} {t : List AV} {m : Mem} {o : Oper} {k kp : Eff → Option R} {r : R} (h : opE P Φ t m o k kp = some r) : Gone k kp r (fun R' k' kp' => opE P Φ t m o k' kp') := by
 unfold opE at h
 cases hop : o.op
 case call c =>
  obtain ⟨callee, ys, ts⟩ := c
  cases callee with
  |value f =>
   simp only [hop] at h
   split at h
   ·rename_i f' caps args hf ha
    unfold callE at h
    simp only at h
    split at h
    ·rename_i ext hx
     split at h
     ·rename_i hle
      obtain ⟨out, hk, hc⟩ := hΦ R _ _ _ _ _ h
      cases hp : out.pan with
      |true =>
       rw [hp] at hk
       exact .inr ⟨_, hk, fun R' k' kp' => by unfold opE callE; simp only [hop, hf, ha, hx, hc, hp, hle]⟩
      |false =>
       rw [hp] at hk
       exact .inl ⟨_, hk, fun R' k' kp' => by unfold opE callE; simp only [hop, hf, ha, hx, hc, hp, hle]⟩
     ·rename_i hle
      split at h
      ·rename_i hnt
       obtain ⟨out, hk, hc⟩ := hΦ R _ _ _ _ _ h
       cases hp : out.pan with
       |true =>
        rw [hp] at hk
        exact .inr ⟨_, hk, fun R' k' kp' => by unfold opE callE; simp only [hop, hf, ha, hx, hc, hp, hle, hnt]⟩
       |false =>
        rw [hp] at hk
        exact .inl ⟨_, hk, fun R' k' kp' => by unfold opE callE; simp only [hop, hf, ha, hx, hc, hp, hle, hnt]⟩
      ·cases h
    ·cases h
   ·cases h
  |invoke r n => simp only [hop] at h; cases h
  |builtin b =>
   simp only [hop] at h
   split at h
   ·rename_i args ha
    obtain ⟨eff, h1, h2⟩ := builtinE_pick h
    exact .inl ⟨eff, h1, fun R' k' kp' => by unfold opE; simp only [hop, ha, h2]⟩
   ·cases h
 case load ty y =>
  simp only [hop] at h
  split at h
  ·rename_i v hv
   obtain ⟨eff, h1, h2⟩ := loadE_pick h
   exact .inl ⟨eff, h1, fun R' k' kp' => by unfold opE; simp only [hop, hv, h2]⟩
  ·cases h
 case store ty y z =>
  simp only [hop] at h
  split at h
  ·rename_i v u hv hu
   obtain ⟨eff, h1, h2⟩ := storeE_pick h
   exact .inl ⟨eff, h1, fun R' k' kp' => by unfold opE; simp only [hop, hv, hu, h2]⟩
  ·cases h
 case makeMap ty r =>
  cases r with
  |none =>
   simp only [hop] at h
   obtain ⟨eff, h1, h2⟩ := newMapE_pick h
   exact .inl ⟨eff, h1, fun R' k' kp' => by unfold opE; simp only [hop, h2]⟩
  |some r => simp only [hop] at h; cases h
 case lookup ty y z ok =>
  simp only [hop] at h
  split at h
  ·rename_i kt et hu
   split at h
   ·rename_i v u hv hw
    obtain ⟨eff, h1, h2⟩ := lookE_pick h
    exact .inl ⟨eff, h1, fun R' k' kp' => by unfold opE; simp only [hop, hu, hv, hw, h2]⟩
   ·cases h
  ·cases h
 case mapUpdate ty y z v' =>
  simp only [hop] at h
  split at h
  ·rename_i kt et hu
   split at h
   ·rename_i v u q hv hw hq
    obtain ⟨eff, h1, h2⟩ := putE_pick h
    exact .inl ⟨eff, h1, fun R' k' kp' => by unfold opE; simp only [hop, hu, hv, hw, hq, h2]⟩
   ·cases h
  ·cases h
 case slice ty y lo hi mx =>
  simp only [hop] at h
  repeat' split at h
  all_goals first
   |cases h; done
   |obtain ⟨eff, h1, h2⟩ := sliceE_pick h
    exact .inl ⟨eff, h1, fun R' k' kp' => by unfold opE; first | (simp only [hop, *, if_true]; done) | (simp_all; done)⟩
 case typeAssert y t0 t1 c =>
  cases c
  ·simp only [hop] at h
   repeat' split at h
   all_goals first
    |cases h; done
    |exact .inl ⟨_, h, fun R k kp => by unfold opE; first | (simp only [hop, *, if_true]; done) | (subst_vars; simp_all; done)⟩
  ·simp only [hop] at h; cases h
 case makeFunc f first caps =>
  cases f
  case func f =>
   simp only [hop] at h
   repeat' split at h
   all_goals first
    |cases h; done
    |exact .inl ⟨_, h, fun R k kp => by unfold opE; first | (simp only [hop, *, if_true]; done) | (subst_vars; simp_all; done)⟩
  all_goals simp only [hop] at h; cases h
 case panic y =>
  simp only [hop] at h
  repeat' split at h
  all_goals first
   |cases h; done
   |exact .inr ⟨_, h, fun R k kp => by unfold opE; first | (simp only [hop, *, if_true]; done) | (subst_vars; simp_all; done)⟩
 all_goals simp only [hop] at h
 all_goals try (repeat' split at h)
 all_goals first
  |cases h; done
  |exact .inl ⟨_, h, fun R k kp => by unfold opE; first | (simp only [hop, *, if_true, if_false]; done) | (subst_vars; simp_all; done)⟩

inductive Rg where
 |go (s : St) | pan (v : AV) (s : St)
def Rg.at {R : Type} (k : St → Option R) (kp : AV → St → Option R) : Rg → Option R
 | .go s => k s
 | .pan v s => kp v s

theorem stepE_pick (hΦ : Pick Φ) {R : Type} {o : Oper} {s : St} {k : St → Option R} {kp : AV → St → Option R} {r : R} (h : stepE P Φ o s k kp = some r) :
  ∃ g : Rg, g.at k kp = some r ∧ ∀ (R' : Type) (k' : St → Option R') (kp' : AV → St → Option R'), stepE P Φ o s k' kp' = g.at k' kp' := by
 unfold stepE at h
 rcases opE_gone hΦ h with ⟨eff, h1, h2⟩ | ⟨eff, h1, h2⟩
 ·exact ⟨.go (s.apply o.dst eff), h1, fun R' k' kp' => h2 R' _ _⟩
 ·exact ⟨.pan eff.val (s.apply none eff), h1, fun R' k' kp' => h2 R' _ _⟩

theorem regP_pick {R : Type} {kp : AV → St → Option R} {all : List Oper} {B : List (List Nat)} {acc : List El} {o : Oper} {s : St} {e : Eff} {r : R} (h : regP kp all B acc o s e = some r) :
  ∃ v s', kp v s' = some r ∧ ∀ (R' : Type) (kp' : AV → St → Option R'), regP kp' all B acc o s e = kp' v s' := by
 unfold regP at h
 split at h
 ·rename_i D h1 h2
  simp only [Eff.force_eq, St.force_eq] at h
  exact ⟨_, _, h, fun R' kp' => by unfold regP; simp only [h1, h2, Eff.force_eq, St.force_eq]⟩
 ·cases h
theorem regD_pick (hΦ : Pick Φ) {R : Type} {all : List Oper} {B : List (List Nat)} {k : St → Option R} {kp : AV → St → Option R} {r : R} : ∀ (l : List Oper) (acc : List El) (s : St), regD P Φ kp all B l acc s k = some r →
  ∃ g : Rg, g.at k kp = some r ∧ ∀ (R' : Type) (k' : St → Option R') (kp' : AV → St → Option R'), regD P Φ kp' all B l acc s k' = g.at k' kp'
 |[], acc, s, h => ⟨.go s, h, fun _ _ _ => rfl⟩
 |o :: l, acc, s, h => by
  have step : ∀ (t : List AV) (tch : List Nat) (s : St) (kx : (R : Type) → (AV → St → Option R) → Eff → Option R), (∀ R (kp : AV → St → Option R) eff r, kx R kp eff = some r → ∃ v s', kp v s' = some r ∧ ∀ (R' : Type) (kp' : AV → St → Option R'), kx R' kp' eff = kp' v s') → opE P Φ t s.m o (fun e =>
     let el := El.of all B acc.length o e true tch
     if okAll B acc.length 0 acc el then regD P Φ kp all B l (acc ++ [el]) (s.apply o.dst e) k else none) (kx R kp) = some r →
    ∃ g : Rg, g.at k kp = some r ∧ ∀ (R' : Type) (k' : St → Option R') (kp' : AV → St → Option R'), opE P Φ t s.m o (fun e =>
     let el := El.of all B acc.length o e true tch
     if okAll B acc.length 0 acc el then regD P Φ kp' all B l (acc ++ [el]) (s.apply o.dst e) k' else none) (kx R' kp') = g.at k' kp' := by
   intro t tch s kx hkx h
   rcases opE_gone hΦ h with ⟨eff, h1, h2⟩ | ⟨eff, h1, h2⟩
   ·simp only at h1
    split at h1
    ·rename_i hok
     obtain ⟨g, h3, h4⟩ := regD_pick hΦ l _ _ h1
     refine ⟨g, h3, fun R' k' kp' => (h2 R' _ _).trans ?_⟩
     simp only [hok, if_true]
     exact h4 R' k' kp'
    ·cases h1
   ·obtain ⟨v, s', h3, h4⟩ := hkx R kp eff r h1
    exact ⟨.pan v s', h3, fun R' k' kp' => (h2 R' _ _).trans (h4 R' kp')⟩
  have skip : ∀ (s : St), (let el := El.of all B acc.length o (.pure .junk) false []
     if okAll B acc.length 0 acc el then regD P Φ kp all B l (acc ++ [el]) (s.apply o.dst (.pure .junk)) k else none) = some r →
    ∃ g : Rg, g.at k kp = some r ∧ ∀ (R' : Type) (k' : St → Option R') (kp' : AV → St → Option R'), (let el := El.of all B acc.length o (.pure .junk) false []
     if okAll B acc.length 0 acc el then regD P Φ kp' all B l (acc ++ [el]) (s.apply o.dst (.pure .junk)) k' else none) = g.at k' kp' := by
   intro s h
   simp only at h
   split at h
   ·rename_i hok
    obtain ⟨g, h3, h4⟩ := regD_pick hΦ l _ _ h
    refine ⟨g, h3, fun R' k' kp' => ?_⟩
    simp only [hok, if_true]
    exact h4 R' k' kp'
   ·cases h
  simp only [regD, regN_eq] at h
  split at h
  ·rename_i hg
   obtain ⟨g, h1, h2⟩ := step _ _ s (fun R kp e => regP kp all B acc o s e) (fun R kp eff r h => regP_pick h) h
   exact ⟨g, h1, fun R' k' kp' => by simp only [regD, regN_eq, hg]; exact h2 R' k' kp'⟩
  ·rename_i j want hg
   split at h
   ·cases h
   ·rename_i d hd
    split at h
    ·rename_i b hb
     cases b <;> cases want <;> simp only at h
     ·obtain ⟨g, h1, h2⟩ := step _ _ (St.mk (s.t.set d (.B false)) s.m) (fun R kp e => none) (fun R kp eff r h => by cases h) h
      exact ⟨g, h1, fun R' k' kp' => by simp only [regD, regN_eq, hg, hd, hb]; exact h2 R' k' kp'⟩
     ·obtain ⟨g, h1, h2⟩ := skip _ h
      exact ⟨g, h1, fun R' k' kp' => by simp only [regD, regN_eq, hg, hd, hb]; exact h2 R' k' kp'⟩
     ·obtain ⟨g, h1, h2⟩ := skip _ h
      exact ⟨g, h1, fun R' k' kp' => by simp only [regD, regN_eq, hg, hd, hb]; exact h2 R' k' kp'⟩
     ·obtain ⟨g, h1, h2⟩ := step _ _ (St.mk (s.t.set d (.B true)) s.m) (fun R kp e => none) (fun R kp eff r h => by cases h) h
      exact ⟨g, h1, fun R' k' kp' => by simp only [regD, regN_eq, hg, hd, hb]; exact h2 R' k' kp'⟩
    ·cases h
theorem regA_pick (hΦ : Pick Φ) {R : Type} {ops : List Oper} {s : St} {k : St → Option R} {kp : AV → St → Option R} {r : R} (h : regA P Φ kp ops s k = some r) :
  ∃ g : Rg, g.at k kp = some r ∧ ∀ (R' : Type) (k' : St → Option R') (kp' : AV → St → Option R'), regA P Φ kp' ops s k' = g.at k' kp' := by
 unfold regA at h
 split at h
 ·rename_i hb
  rw [befsK_eq] at h
  generalize hst : strikes ops (befs ops []) 0 ops = st at h
  obtain ⟨p, ks⟩ := st
  obtain ⟨g, h1, h2⟩ := regD_pick hΦ ops [] _ h
  exact ⟨g, h1, fun R' k' kp' => by unfold regA; rw [if_pos hb, befsK_eq, hst]; exact h2 R' k' kp'⟩
 ·cases h

theorem loopE_pick {q : Nat} {tl ml : List Nat} {body : (R : Type) → (Ex → St → Option R) → St → Option R}
  (hb : ∀ (R : Type) (K : Ex → St → Option R) (r : R) (s : St), body R K s = some r → ∃ e s', K e s' = some r ∧ ∀ (R' : Type) (K' : Ex → St → Option R'), body R' K' s = K' e s')
  {R : Type} {K : Ex → St → Option R} {r : R} : ∀ (n : Nat) (s : St), loopE q tl ml (body R) n K s = some r → ∃ e s', K e s' = some r ∧ ∀ (R' : Type) (K' : Ex → St → Option R'), loopE q tl ml (body R') n K' s = K' e s'
 |0, s, h => by simp [loopE] at h
 |n + 1, s, h => by
  simp only [loopE] at h
  obtain ⟨e, s', h1, h2⟩ := hb _ _ _ _ h
  cases e with
  |normal =>
   simp only at h1
   split at h1
   ·rename_i s'' hn
    obtain ⟨e2, s2, h3, h4⟩ := loopE_pick hb n s'' h1
    exact ⟨e2, s2, h3, fun R' K' => by simp only [loopE]; rw [h2]; simp only [hn]; exact h4 R' K'⟩
   ·cases h1
  |exit id => exact ⟨_, s', h1, fun R' K' => by simp only [loopE]; rw [h2]⟩
  |ret => exact ⟨_, s', h1, fun R' K' => by simp only [loopE]; rw [h2]⟩
  |pan v => exact ⟨_, s', h1, fun R' K' => by simp only [loopE]; rw [h2]⟩

theorem thaw_pick {t slot : Nat} {s : St} {R : Type} {k : St → Option R} {r : R} (h : thaw t slot s k = some r) : ∃ s', k s' = some r ∧ ∀ (R' : Type) (k' : St → Option R'), thaw t slot s k' = k' s' := by
 unfold thaw at h
 split at h
 ·rename_i nl ks rows j ht
  split at h
  ·rename_i hc
   exact ⟨_, h, fun R' k' => by unfold thaw; simp only [ht, hc]⟩
  ·rename_i hc
   split at h
   ·rename_i hc2
    exact ⟨_, h, fun R' k' => by unfold thaw; simp only [ht, hc, hc2]⟩
   ·cases h
 ·rename_i v hne ht
  refine ⟨s, h, fun R' k' => ?_⟩
  unfold thaw
  split
  ·rename_i nl ks rows j ht'
   rw [ht] at ht'
   exact absurd (Option.some.inj ht') (hne _ _ _ _)
  ·rfl
  ·rename_i ht'; rw [ht] at ht'; cases ht'
 ·cases h
theorem freeze_pick {t : Nat} {s : St} {R : Type} {k : St → Option R} {r : R} (h : freeze t s k = some r) : ∃ s', k s' = some r ∧ ∀ (R' : Type) (k' : St → Option R'), freeze t s k' = k' s' := by
 unfold freeze at h
 split at h
 ·rename_i slot ks off n c ht
  split at h
  ·rename_i ks2 rows hl
   split at h
   ·rename_i hc
    split at h
    ·rename_i hlen
     rw [chillMK_eq] at h
     exact ⟨_, h, fun R' k' => by unfold freeze; simp only [ht, hl, hc, if_pos hlen]; rw [chillMK_eq]⟩
    ·cases h
   ·cases h
  ·cases h
 ·rename_i v hne ht
  refine ⟨s, h, fun R' k' => ?_⟩
  unfold freeze
  split
  ·rename_i slot ks off n c ht'
   rw [ht] at ht'
   exact absurd (Option.some.inj ht') (hne _ _ _ _ _)
  ·rfl
  ·rename_i ht'; rw [ht] at ht'; cases ht'
 ·cases h
theorem niled_pick {t : Nat} {s : St} {R : Type} {k : St → Option R} {r : R} (h : niled t s k = some r) : ∃ s', k s' = some r ∧ ∀ (R' : Type) (k' : St → Option R'), niled t s k' = k' s' := by
 unfold niled at h
 split at h
 ·rename_i nl ks rows r0 ht
  cases nl with
  |true => exact ⟨_, h, fun R' k' => by unfold niled; simp only [ht]⟩
  |false => exact ⟨_, h, fun R' k' => by unfold niled; simp only [ht]⟩
 ·rename_i v hne ht
  refine ⟨s, h, fun R' k' => ?_⟩
  unfold niled
  split
  ·rename_i nl ks rows r0 ht'
   rw [ht] at ht'
   exact absurd (Option.some.inj ht') (hne _ _ _ _)
  ·rfl
  ·rename_i ht'; rw [ht] at ht'; cases ht'
 ·cases h
theorem pre_pick {R : Type} {k : St → Option R} {r : R} : ∀ {l : List Nat} {s : St}, pre l s k = some r → ∃ s', k s' = some r ∧ ∀ (R' : Type) (k' : St → Option R'), pre l s k' = k' s'
 |[], s, h => ⟨s, h, fun _ _ => rfl⟩
 |0 :: t :: slot :: l, s, h => by
  obtain ⟨s1, h1, h2⟩ := thaw_pick h
  obtain ⟨s2, h3, h4⟩ := pre_pick h1
  exact ⟨s2, h3, fun R' k' => (h2 R' _).trans (h4 R' k')⟩
 |1 :: t :: l, s, h => by
  obtain ⟨s1, h1, h2⟩ := freeze_pick h
  obtain ⟨s2, h3, h4⟩ := pre_pick h1
  exact ⟨s2, h3, fun R' k' => (h2 R' _).trans (h4 R' k')⟩
 |2 :: t :: l, s, h => by
  obtain ⟨s1, h1, h2⟩ := niled_pick h
  obtain ⟨s2, h3, h4⟩ := pre_pick h1
  exact ⟨s2, h3, fun R' k' => (h2 R' _).trans (h4 R' k')⟩
 |[0], s, h => by cases h
 |[0, _], s, h => by cases h
 |[1], s, h => by cases h
 |[2], s, h => by cases h
 |(n + 3) :: l, s, h => by cases l <;> cases h

theorem regE_pick (hΦ : Pick Φ) {R : Type} {lv : Live} {all : List Oper} {k : St → Option R} {kp : AV → St → Option R} {r : R} : ∀ (l : List Oper) (s : St), regE P Φ lv all l s k kp = some r →
  ∃ g : Rg, g.at k kp = some r ∧ ∀ (R' : Type) (k' : St → Option R') (kp' : AV → St → Option R'), regE P Φ lv all l s k' kp' = g.at k' kp'
 |[], s, h => ⟨.go s, h, fun _ _ _ => rfl⟩
 |o :: l, s, h => by
  have step : ∀ s, stepE P Φ o s (fun s' => regE P Φ lv all l s' k kp) kp = some r → ∃ g : Rg, g.at k kp = some r ∧ ∀ (R' : Type) (k' : St → Option R') (kp' : AV → St → Option R'), stepE P Φ o s (fun s' => regE P Φ lv all l s' k' kp') kp' = g.at k' kp' := by
   intro s h
   obtain ⟨g, h1, h2⟩ := stepE_pick hΦ h
   cases g with
   |go s' =>
    obtain ⟨g, h3, h4⟩ := regE_pick hΦ l s' h1
    exact ⟨g, h3, fun R' k' kp' => (h2 R' _ _).trans (h4 R' _ _)⟩
   |pan v s' => exact ⟨.pan v s', h1, fun R' k' kp' => h2 R' _ _⟩
  simp only [regE] at h
  obtain ⟨s, h, hp⟩ := pre_pick h
  unfold reg1 at h
  split at h
  ·rename_i hg
   obtain ⟨g, h1, h2⟩ := step s h
   exact ⟨g, h1, fun R' k' kp' => by simp only [regE]; rw [hp]; simp only [reg1, hg]; exact h2 R' k' kp'⟩
  ·rename_i j want hg
   split at h
   ·cases h
   ·rename_i d hd
    split at h
    ·rename_i b hb
     cases b <;> cases want <;> simp only at h
     ·obtain ⟨g, h1, h2⟩ := step _ h
      exact ⟨g, h1, fun R' k' kp' => by simp only [regE]; rw [hp]; simp only [reg1, hg, hd, hb]; exact h2 R' k' kp'⟩
     ·obtain ⟨g, h1, h2⟩ := regE_pick hΦ l _ h
      exact ⟨g, h1, fun R' k' kp' => by simp only [regE]; rw [hp]; simp only [reg1, hg, hd, hb]; exact h2 R' k' kp'⟩
     ·obtain ⟨g, h1, h2⟩ := regE_pick hΦ l _ h
      exact ⟨g, h1, fun R' k' kp' => by simp only [regE]; rw [hp]; simp only [reg1, hg, hd, hb]; exact h2 R' k' kp'⟩
     ·obtain ⟨g, h1, h2⟩ := step _ h
      exact ⟨g, h1, fun R' k' kp' => by simp only [regE]; rw [hp]; simp only [reg1, hg, hd, hb]; exact h2 R' k' kp'⟩
    ·rename_i hb
     obtain ⟨g, h1, h2⟩ := regE_pick hΦ l _ h
     exact ⟨g, h1, fun R' k' kp' => by simp only [regE]; rw [hp]; simp only [reg1, hg, hd, hb]; exact h2 R' k' kp'⟩
    ·cases h

theorem den_pick (hΦ : Pick Φ) (lv : Live) (n : Nat) : ∀ (c : Code) (R : Type) (K : Ex → St → Option R) (r : R) (s : St), den P Φ lv n c K s = some r → ∃ e s', K e s' = some r ∧ ∀ (R' : Type) (K' : Ex → St → Option R'), den P Φ lv n c K' s = K' e s' := by
 intro c
 induction c with
 |skip => intro R K r s h; exact ⟨.normal, s, h, fun _ _ => rfl⟩
 |region id ops draw =>
  intro R K r s h
  simp only [den, St.force_eq] at h ⊢
  obtain ⟨s0, h, hp⟩ := pre_pick h
  cases draw with
  |false =>
   obtain ⟨g, h1, h2⟩ := regE_pick hΦ ops.toList s0 h
   cases g with
   |go s' => exact ⟨.normal, s', h1, fun R' K' => (hp R' _).trans (h2 R' _ _)⟩
   |pan v s' => exact ⟨.pan v, s', h1, fun R' K' => (hp R' _).trans (h2 R' _ _)⟩
  |true =>
   obtain ⟨g, h1, h2⟩ := regA_pick hΦ h
   cases g with
   |go s' => exact ⟨.normal, s', h1, fun R' K' => (hp R' _).trans (h2 R' _ _)⟩
   |pan v s' => exact ⟨.pan v, s', h1, fun R' K' => (hp R' _).trans (h2 R' _ _)⟩
 |seq a b iha ihb =>
  intro R K r s h
  simp only [den] at h ⊢
  obtain ⟨e, s', h1, h2⟩ := iha _ _ _ _ h
  cases e with
  |normal =>
   obtain ⟨e2, s2, h3, h4⟩ := ihb _ _ _ _ h1
   exact ⟨e2, s2, h3, fun R' K' => by rw [h2]; exact h4 R' K'⟩
  |exit id => exact ⟨_, s', h1, fun R' K' => by rw [h2]⟩
  |ret => exact ⟨_, s', h1, fun R' K' => by rw [h2]⟩
  |pan v => exact ⟨_, s', h1, fun R' K' => by rw [h2]⟩
 |cond c a b iha ihb =>
  intro R K r s h
  simp only [den] at h ⊢
  split at h
  ·rename_i x hx
   cases x with
   |true =>
    obtain ⟨e, s', h1, h2⟩ := iha _ _ _ _ h
    exact ⟨e, s', h1, fun R' K' => by simp only [hx]; exact h2 R' K'⟩
   |false =>
    obtain ⟨e, s', h1, h2⟩ := ihb _ _ _ _ h
    exact ⟨e, s', h1, fun R' K' => by simp only [hx]; exact h2 R' K'⟩
  ·cases h
 |block id b ih =>
  intro R K r s h
  simp only [den] at h ⊢
  obtain ⟨e, s', h1, h2⟩ := ih _ _ _ _ h
  cases e with
  |normal => exact ⟨_, s', h1, fun R' K' => by rw [h2]⟩
  |exit j =>
   simp only at h1
   cases hj : Nat.beq j id with
   |true => rw [hj] at h1; exact ⟨_, s', h1, fun R' K' => by rw [h2]; simp only [hj, if_true]⟩
   |false => rw [hj] at h1; exact ⟨_, s', h1, fun R' K' => by rw [h2]; simp only [hj]; rfl⟩
  |ret => exact ⟨_, s', h1, fun R' K' => by rw [h2]⟩
  |pan v => exact ⟨_, s', h1, fun R' K' => by rw [h2]⟩
 |loop b ih =>
  intro R K r s h
  simp only [den] at h ⊢
  split at h
  ·rename_i tl ml hlv
   split at h
   ·rename_i s' hn
    obtain ⟨e, s2, h1, h2⟩ := loopE_pick (q := key b) (tl := tl) (ml := ml) (body := fun R K s => den P Φ lv n b K s) (fun R K r s h => ih R K r s h) n s' h
    exact ⟨e, s2, h1, fun R' K' => by first | exact h2 R' K' | (simp only [hlv, hn]; exact h2 R' K')⟩
   ·cases h
  ·cases h
 |exit id => intro R K r s h; exact ⟨_, s, h, fun _ _ => rfl⟩
 |ret =>
  intro R K r s h
  simp only [den] at h ⊢
  obtain ⟨s0, h, hp⟩ := pre_pick h
  exact ⟨.ret, s0, h, fun R' K' => hp R' _⟩
 |rangeFunc => intro R K r s h; simp [den] at h
 |scope b ih => intro R K r s h; exact ih R K r s h
 |label l => intro R K r s h; exact ⟨_, s, h, fun _ _ => rfl⟩
 |goto => intro R K r s h; simp [den] at h
 |refuse => intro R K r s h; simp [den] at h

theorem resE_pick {s : St} : ∀ (l : List ResultVar) {R : Type} (k : List AV → Option R) (r : R), resE P s l k = some r → ∃ vs, k vs = some r ∧ ∀ (R' : Type) (k' : List AV → Option R'), resE P s l k' = k' vs
 |[], R, k, r, h => ⟨[], h, fun _ _ => rfl⟩
 | .tmp t :: l, R, k, r, h => by
  simp only [resE] at h
  split at h
  ·rename_i v hv
   obtain ⟨vs, h1, h2⟩ := resE_pick l _ _ h
   exact ⟨v :: vs, h1, fun R' k' => by simp only [resE, hv]; exact h2 R' _⟩
  ·cases h
 | .cell a t :: l, R, k, r, h => by
  simp only [resE] at h
  split at h
  ·rename_i v hv
   obtain ⟨eff, h1, h2⟩ := loadE_pick h
   obtain ⟨vs, h3, h4⟩ := resE_pick l _ _ h1
   exact ⟨eff.val :: vs, h3, fun R' k' => by simp only [resE, hv]; rw [h2]; exact h4 R' _⟩
  ·cases h
theorem fin_pick {fn : Func} {keep : Bool} {ext : List (List AV)} {R : Type} {K : Out → Option R} {e : Ex} {s : St} {r : R} (h : fin P fn keep ext K e s = some r) : ∃ out, K out = some r ∧ ∀ (R' : Type) (K' : Out → Option R'), fin P fn keep ext K' e s = K' out := by
 have res : (resE P s fn.results.toList fun vs => match canon (keep && !lentX ext) vs, extX s.m ext with
  |some v, some ex => K ⟨false, v, ex⟩
  |_, _ => none) = some r → ∃ out, K out = some r ∧ ∀ (R' : Type) (K' : Out → Option R'), (resE P s fn.results.toList fun vs => match canon (keep && !lentX ext) vs, extX s.m ext with
  |some v, some ex => K' ⟨false, v, ex⟩
  |_, _ => none) = K' out := by
  intro h
  obtain ⟨vs, h1, h2⟩ := resE_pick _ _ _ h
  split at h1
  ·rename_i v ex hv hex
   exact ⟨_, h1, fun R' K' => by rw [h2]; simp only [hv, hex]⟩
  ·cases h1
 unfold fin at h
 cases e with
 |exit id => cases h
 |pan v =>
  simp only at h
  split at h
  ·rename_i ex hex
   exact ⟨_, h, fun R' K' => by unfold fin; simp only [hex]⟩
  ·cases h
 |normal => obtain ⟨out, h1, h2⟩ := res h; exact ⟨out, h1, fun R' K' => h2 R' K'⟩
 |ret => obtain ⟨out, h1, h2⟩ := res h; exact ⟨out, h1, fun R' K' => h2 R' K'⟩
theorem denFn_pick (hΦ : Pick Φ) {lv : Live} {n : Nat} {fn : Func} {keep : Bool} {args : List AV} {ext : List (List AV)} {R : Type} {K : Out → Option R} {r : R} (h : denFn P Φ lv n fn keep args ext K = some r) :
  ∃ out, K out = some r ∧ ∀ (R' : Type) (K' : Out → Option R'), denFn P Φ lv n fn keep args ext K' = K' out := by
 unfold denFn at h
 split at h
 ·cases h
 ·rename_i c hc
  split at h
  ·rename_i hle
   obtain ⟨e, s', h1, h2⟩ := den_pick hΦ lv n c _ _ _ _ h
   obtain ⟨out, h3, h4⟩ := fin_pick h1
   exact ⟨out, h3, fun R' K' => by unfold denFn; simp only [hc, hle, if_true]; rw [h2]; exact h4 R' K'⟩
  ·cases h

def Tab.named (P : Program) : Tab → Bool
 |[] => true
 |(f, _) :: l => (match P.funcs[f]? with | some fn => fn.name != "runtime.NumGoroutine" | none => true) && Tab.named P l
theorem Tab.named_get {P : Program} : ∀ {T : Tab}, Tab.named P T = true → ∀ {f : FuncId} {lv : Live × List Nat}, Tab.live T f = some lv → ∀ {fn : Func}, P.funcs[f]? = some fn → fn.name ≠ "runtime.NumGoroutine"
 |[], _, f, lv, h, _, _ => by simp [Tab.live] at h
 |(g, l0) :: T, h, f, lv, hl, fn, hf => by
  simp only [Tab.named, Bool.and_eq_true] at h
  simp only [Tab.live] at hl
  split at hl
  ·rename_i hg
   rw [beq_eq] at hg
   subst hg
   have := h.1
   rw [hf] at this
   simpa using this
  ·exact Tab.named_get h.2 hl hf
theorem inl_ok {P : Program} {T : Tab} {n : Nat} {Φ : Orc} (hmix : P.follows .mixedOrders = true) (hT : Tab.named P T = true) (hp : Pick Φ) (hs : OSound P Φ) : ∀ d h, Pick (inl P T n Φ d h) ∧ OSound P (inl P T n Φ d h)
 |0, h => ⟨hp, hs⟩
 |d + 1, h => by
  have ih := inl_ok (n := n) hmix hT hp hs d
  have pk : Pick (inl P T n Φ (d + 1) h) := by
   intro R f args ext k r h
   simp only [inl] at h ⊢
   split at h
   ·rename_i ht
    obtain ⟨out, h1, h2⟩ := hp _ _ _ _ _ _ h
    exact ⟨out, h1, fun R' k' => by simp only [h2]⟩
   ·rename_i lv hs' ht
    split at h
    ·rename_i fn hf
     obtain ⟨out, h1, h2⟩ := denFn_pick (ih hs').1 h
     exact ⟨out, h1, fun R' k' => by simp only [h2]⟩
    ·cases h
  refine ⟨pk, ?_⟩
  intro R f args ext k r h
  simp only [inl] at h
  split at h
  ·exact hs _ _ _ _ _ _ h
  ·rename_i lv hs' ht
   split at h
   ·rename_i fn hf
    obtain ⟨out, h1, h2⟩ := denFn_pick (ih hs').1 h
    exact ⟨out, fn_ok (ih hs').2 hmix hf (Tab.named_get hT ht hf) (h2 Out some), h1⟩
   ·cases h
end Go.Den
namespace Go.Den
theorem bareLL_get : ∀ {l : List (List AV)} {i : Nat} {cs : List AV}, (bareLL l)[i]? = some cs → ∃ c0, l[i]? = some c0 ∧ (cs = AV.bareL c0 ∨ cs = c0)
 |[], i, cs, h => by simp [bareLL] at h
 |c :: l, 0, cs, h => by
  simp only [bareLL, List.getElem?_cons_zero, Option.some.injEq] at h
  refine ⟨c, rfl, ?_⟩
  split at h
  ·exact .inl h.symm
  ·exact .inr h.symm
 |c :: l, i + 1, cs, h => by simp only [bareLL, List.getElem?_cons_succ] at h; simpa using bareLL_get h
theorem tokLL_of_bare : ∀ {l : List (List AV)}, AV.hasTokLL (bareLL l) = false → AV.hasTokLL l = false
 |[], _ => rfl
 |c :: l, h => by
  simp only [bareLL, AV.hasTokLL, Bool.or_eq_false_iff] at h ⊢
  refine ⟨?_, tokLL_of_bare h.2⟩
  have h1 := h.1
  cases hc : topToks c with
  |nil => rfl
  |cons z y => simp only [hc] at h1; cases h1
theorem bareLL_length : ∀ l : List (List AV), (bareLL l).length = l.length
 |[] => rfl
 |c :: l => by simp [bareLL, bareLL_length l]
theorem contract_bareE {P : Program} {f : FuncId} {args : List AV} {ext : List (List AV)} {out : Out} (h : Contract P f args (bareLL ext) out) : Contract P f args ext out := by
 refine ⟨h.1, fun w x E L vs htk hI hr => ?_⟩
 have hI' : Inv ⟨P, w, x, E, [], L⟩ x w (zipExt 1000 (bareLL ext)) := by
  refine hI.refill ?_
  intro k cs hk
  rw [lookup_zipExt] at hk ⊢
  split at hk
  ·rename_i hle
   rw [if_pos hle]
   obtain ⟨c0, h0, h1 | h1⟩ := bareLL_get hk
   ·subst h1
    exact ⟨c0, h0, ⟨virgin_bare, isMp_bare c0⟩, fun _ _ _ _ _ hc => hc.bare rfl ⟨rfl, rfl, rfl⟩⟩
   ·subst h1
    exact ⟨cs, h0, ⟨id, rfl⟩, fun _ _ _ _ _ hc => hc⟩
  ·cases hk
 have := h.2 w x E L vs (fun hh => htk (by
  rw [Bool.or_eq_false_iff] at hh ⊢
  exact ⟨hh.1, tokLL_of_bare hh.2⟩)) hI' hr
 rw [bareLL_length] at this
 exact this
def Spec1Ok (P : Program) (f : FuncId) (g : Spec1) : Prop := ∀ R args ext k r, g R args ext k = some r → ∃ out, Contract P f args ext out ∧ k out = some r ∧ ∀ R' k', g R' args ext k' = k' out
def SpecOk (P : Program) (σ : Spec) : Prop := ∀ f, Spec1Ok P f (fun R => σ R f)
theorem SpecOk.pick {P : Program} {σ : Spec} (h : SpecOk P σ) (hs : List Nat) : Pick (σ.orc hs) := by
 intro R f args ext k r hr
 obtain ⟨out, _, h2, h3⟩ := h f R _ _ k r hr
 exact ⟨out, h2, fun R' k' => h3 R' k'⟩
theorem SpecOk.sound {P : Program} {σ : Spec} (h : SpecOk P σ) (hs : List Nat) : OSound P (σ.orc hs) := by
 intro R f args ext k r hr
 obtain ⟨out, h1, h2, _⟩ := h f R _ _ k r hr
 exact ⟨out, contract_bareE h1, h2⟩
theorem SpecOk.none (P : Program) : SpecOk P Spec.none := fun _ _ _ _ _ _ h => by cases h
theorem with_ok {P : Program} {σ : Spec} {T : Tab} (hmix : P.follows .mixedOrders = true) (hT : Tab.named P T = true) (h : SpecOk P σ) (n d : Nat) (hs : List Nat) : OSound P (with_ P σ T n d hs) :=
 (inl_ok hmix hT (h.pick []) (h.sound []) d hs).2
end Go.Den
namespace Go.Den
theorem wrap_i64 {z : Int} (h1 : -9223372036854775808 ≤ z) (h2 : z < 9223372036854775808) : IntKind.wrap IntKind.i64 z = z := by
 unfold IntKind.wrap
 simp only [IntKind.bits, IntKind.signed]
 first
  |(simp; omega)
  |omega
theorem wrap_succ {j : Nat} (h : j < big) : IntKind.wrap IntKind.i64 ((j : Int) + 1) = ((j + 1 : Nat) : Int) := by
 unfold big at h
 rw [wrap_i64 (by omega) (by omega)]; omega
theorem getD_get {rows : Rows} {j : Nat} (h : j < rows.length) : rows.getD j [] = rows[j] := by
 rw [List.getD_eq_getElem?_getD, List.getElem?_eq_getElem h]; rfl
instance lawfulBytes : LawfulBEq ByteArray where
 eq_of_beq := by
  intro a b h
  cases a; cases b
  rename_i x y
  have h' : (x == y) = true := h
  rw [eq_of_beq h']
 rfl := by
  intro a
  cases a
  rename_i x
  show (x == x) = true
  exact beq_self_eq_true x
end Go.Den
