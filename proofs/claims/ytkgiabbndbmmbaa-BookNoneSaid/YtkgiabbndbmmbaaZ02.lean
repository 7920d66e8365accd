import Derived.Test.YtkgiabbndbmmbaaZ01
import Derived.MapKept
import Derived.Deep.LoopGhost
import Derived.Scope
import Derived.Test.YtkgiabbndbmmbaaZ00
set_option linter.unusedVariables false
set_option linter.unusedSimpArgs false
set_option linter.unusedSectionVars false
namespace Go.Den
variable {e : Env} {x : X} {w : World} {m : Mem} {tm : List AV} {a : Act} {next : Act → World → Prop} {Q : Exit → Act → World → Prop} {R : Type} {res : R} {k kp : Eff → Option R} {o : Oper}
open Go.MapKept (IsKey)

theorem keyOk_inv {P : Program} {t : TypeId} {ks : List Kd} (h : keyOk P t ks = true) : ∃ d kk vs, P.underlying t = some d ∧ ks = kk :: vs ∧ ∀ v, DV.ofKd kk (.val v) = true → IsKey d v := by
 unfold keyOk at h
 split at h
 ·rename_i vs hd
  refine ⟨_, _, vs, hd, rfl, fun v hv => ?_⟩
  cases v <;> first | trivial | cases hv
 ·rename_i q j vs hd
  refine ⟨_, _, vs, hd, rfl, fun v hv => ?_⟩
  have hq := of_decide_eq_true h
  subst hq
  cases v <;> first | (simp only [DV.ofKd, decide_eq_true_eq] at hv; subst hv; rfl) | cases hv
 ·rename_i vs hd
  refine ⟨_, _, vs, hd, rfl, fun v hv => ?_⟩
  cases v <;> first | trivial | cases hv
 ·cases h
theorem sameNow_D {d : TypeDesc} {u v : Value} (hu : IsKey d u) (hv : IsKey d v) : Instr.sameNow d u v = some (sameD (.val u) (.val v)) := by
 cases d <;> cases u <;> cases v <;> simp_all [IsKey, Instr.sameNow, sameD]
theorem same_self {d : TypeDesc} {u v : Value} (hu : IsKey d u) (hv : IsKey d v) (h : sameD (.val u) (.val v) = true) : u = v := by
 cases d <;> cases u <;> cases v <;> simp_all [IsKey, sameD] <;> exact (MapKept.bytes_beq _ _).1 h
theorem key_bits {d : TypeDesc} {u : Value} (hu : IsKey d u) : Instr.sameBits 10000 u u = true := by
 cases d <;> cases u <;> simp_all [IsKey, Instr.sameBits] <;> exact (MapKept.bytes_beq _ _).2 rfl
theorem row_head {kk : Kd} {vs : List Kd} {r : Row} (h : Row.ofKds (kk :: vs) r = true) (hf : flatRow r) : ∃ v l, r = .val v :: l ∧ Row.at r 0 = .val v ∧ Row.V r 0 = v ∧ DV.ofKd kk (.val v) = true ∧ Row.ofKds vs l = true := by
 cases r with
 |nil => cases h
 |cons d l =>
  obtain ⟨v, rfl, _⟩ := hf d List.mem_cons_self
  simp only [Row.ofKds, Bool.and_eq_true] at h
  exact ⟨v, l, rfl, rfl, rfl, h.1, h.2⟩
theorem find_rows {ag : Bool} {kk : Kd} {vs : List Kd} {d : TypeDesc} (hkk : ∀ v, DV.ofKd kk (.val v) = true → IsKey d v) {u : Value} (hu : IsKey d u) : ∀ (L : List MapEntry) (rows : Rows) (i : Nat), L.map (fun e => (e.key, e.val)) = rows.map (kvOf ag) → (∀ r ∈ rows, Row.ofKds (kk :: vs) r = true ∧ flatRow r) →
  (mhas rows (.val u) = false ∧ Instr.findNow d u L i = some none ∧ (∀ z, mget rows (.val u) z = z) ∧ ∀ n, mput rows (.val u) n = rows ++ [n]) ∨
  ∃ j en r, mhas rows (.val u) = true ∧ Instr.findNow d u L i = some (some (i + j, en.val)) ∧ L[j]? = some en ∧ en.key = u ∧ rows[j]? = some r ∧ (∀ z, mget rows (.val u) z = r) ∧ ∀ n, mput rows (.val u) n = rows.set j n
 |[], [], i, _, _ => .inl ⟨rfl, rfl, fun _ => rfl, fun _ => rfl⟩
 |[], _ :: _, i, h, _ => by cases h
 |_ :: _, [], i, h, _ => by cases h
 |en :: L, r :: rows, i, h, hr => by
  simp only [List.map_cons, List.cons.injEq] at h
  obtain ⟨h1, h2⟩ := h
  obtain ⟨v, l, hrl, hat, hV, hok, _⟩ := row_head (hr r List.mem_cons_self).1 (hr r List.mem_cons_self).2
  have hv := hkk v hok
  have hkey : en.key = v := by have := congrArg Prod.fst h1; rw [← hV]; exact this
  have hs := sameNow_D hu hv
  cases hsd : sameD (.val u) (.val v) with
  |true =>
   refine .inr ⟨0, en, r, ?_, ?_, rfl, ?_, rfl, fun z => ?_, fun n => ?_⟩
   ·simp [mhas, hat, hsd]
   ·simp [Instr.findNow, hkey, hs, hsd]
   ·rw [hkey]; exact (same_self hu hv hsd).symm
   ·simp [mget, hat, hsd]
   ·simp [mput, hat, hsd]
  |false =>
   rcases find_rows hkk hu L rows (i + 1) h2 (fun q hq => hr q (List.mem_cons_of_mem _ hq)) with ⟨g1, g2, g3, g4⟩ | ⟨j, en', r', g1, g2, g3, g4, g5, g6, g7⟩
   ·refine .inl ⟨?_, ?_, fun z => ?_, fun n => ?_⟩
    ·simp [mhas, hat, hsd, g1]
    ·simp [Instr.findNow, hkey, hs, hsd, g2]
    ·simp [mget, hat, hsd, g3]
    ·simp [mput, hat, hsd, g4]
   ·refine .inr ⟨j + 1, en', r', ?_, ?_, by simpa using g3, g4, by simpa using g5, fun z => ?_, fun n => ?_⟩
    ·simp [mhas, hat, hsd, g1]
    ·simp [Instr.findNow, hkey, hs, hsd, g2]; omega
    ·simp [mget, hat, hsd, g6]
    ·simp [mput, hat, hsd, g7]
theorem flatKds_mem : ∀ {ks : List Kd}, flatKds ks = true → ∀ {kd : Kd}, kd ∈ ks → ∀ l, kd ≠ .sl l
 |[], _, kd, h, l => by cases h
 |k0 :: ks, hf, kd, h, l => by
  rcases List.mem_cons.1 h with rfl | h
  ·intro he; subst he; cases hf
  ·refine flatKds_mem (ks := ks) ?_ h l
   cases k0 <;> first | exact hf | cases hf
theorem flat_cell {M : Mm} {kd : Kd} (hkd : ∀ l, kd ≠ .sl l) {d : DV} {v : Value} (hd : RepD M d v) (hk : DV.ofKd kd d = true) : d = .val v ∧ v.oneCell' = true := by
 cases d with
 |val u => cases hd; exact ⟨rfl, by assumption⟩
 |sl nl ks rows => cases kd <;> first | (cases hk; done) | exact absurd rfl (hkd _)
theorem flat_row {M : Mm} : ∀ {ks : List Kd} {r : Row} {vs : List Value}, flatKds ks = true → Row.ofKds ks r = true → CellsV M r vs → r.map DV.toV = vs ∧ flatRow r
 |[], [], _, _, _, h => by cases h; exact ⟨rfl, fun d hd => by cases hd⟩
 |[], _ :: _, _, _, h, _ => by cases h
 |_ :: _, [], _, _, h, _ => by cases h
 |kd :: ks, d :: r, _, hf, ho, h => by
  cases h with | cons _ v _ vs h1 h2 =>
  simp only [Row.ofKds, Bool.and_eq_true] at ho
  have hf2 : flatKds ks = true := by cases kd <;> first | exact hf | cases hf
  obtain ⟨g1, g2⟩ := flat_row hf2 ho.2 h2
  obtain ⟨rfl, g3⟩ := flat_cell (flatKds_mem hf List.mem_cons_self) h1 ho.1
  refine ⟨by rw [List.map_cons, g1]; rfl, fun q hq => ?_⟩
  rcases List.mem_cons.1 hq with rfl | hq
  ·exact ⟨v, rfl, g3⟩
  ·exact g2 q hq
theorem flatRow_cells {M : Mm} : ∀ {r : Row}, flatRow r → CellsV M r (r.map DV.toV)
 |[], _ => .nil
 |d :: r, h => by
  obtain ⟨v, rfl, hv⟩ := h d List.mem_cons_self
  exact .cons _ _ _ _ (.val v hv) (flatRow_cells fun q hq => h q (List.mem_cons_of_mem _ hq))
theorem entry_rep {ag : Bool} {ks : List Kd} {r : Row} {v : AV} (h : entryAV ag ks r = some v) (ho : Row.ofKds ks r = true) (hf : flatRow r) : Rep x v (kvOf ag r).2 := by
 have hc : CellsV x.M r (r.map DV.toV) := flatRow_cells hf
 unfold entryAV at h
 split at h
 ·rename_i kk vs
  cases h
  have hl : vs.length + 1 = r.length := by have := Row.ofKds_length ho; simp at this; omega
  have := rep_cells_from (x := x) hc ho vs 1 (fun i hi => by rw [Nat.add_comm]; rfl)
  have e : ((r.map DV.toV).drop 1).take vs.length = r.tail.map DV.toV := by
   rw [List.take_of_length_le (by simp; omega)]
   cases r <;> simp
  rw [e] at this
  exact .agg _ _ this
 ·rename_i kk kd
  cases h
  obtain ⟨u, hu, hru⟩ := rep_at (x := x) hc ho (j := 1) (k := kd) rfl
  have : u = Row.V r 1 := by
   rw [List.getElem?_map] at hu
   unfold Row.V Row.at
   rw [List.getD_eq_getElem?_getD]
   cases hr : r[1]? with
   |none => rw [hr] at hu; cases hu
   |some d => rw [hr] at hu; cases hu; rfl
  show Rep x _ (Row.V r 1)
  rw [← this]; exact hru
 ·cases h
theorem zAgg_zero {P : Program} {t : TypeId} {ag : Bool} (h : zAgg P t = some ag) {i : TypeInfo} {z : Value} (hi : P.info? t = some i) (hz : i.zero = some z) : (∃ l, z = .agg l ∧ ag = true) ∨ ((∀ l, z ≠ .agg l) ∧ ag = false) := by
 unfold zAgg at h
 rw [hi] at h
 simp only [hz] at h
 split at h
 ·rename_i q _ he; cases he; cases h; exact .inl ⟨_, rfl, rfl⟩
 ·rename_i q v hne he; cases he; cases h; exact .inr ⟨fun l hl => hne l (by rw [hl]), rfl⟩
 ·cases h
theorem cells_of {z : Value} (h : ∀ l, z ≠ .agg l) : z.cells = #[z] := by
 cases z <;> first | rfl | exact absurd rfl (h _)
theorem run_zero {P : Program} {t : TypeId} {i : TypeInfo} {z : Value} (hi : P.info? t = some i) (hz : i.zero = some z) : (zeroValue t).run P w = .ok z w := by
 simp [zeroValue, typeInfo, hi, hz, Result.andThen]

theorem sound_makeMap (hI : Inv e x w m) (hk : Goes e x m a o next k res) {t : TypeId} (ho : o.op = .makeMap t none)
  (h : newMapE e.P o.dst t k = some res) : o.wp e.P a w next Q := by
 unfold newMapE at h
 split at h
 ·rename_i d kt et hd hu
  split at h
  ·rename_i ks vs ag h1 h2 h3
   split at h
   ·rename_i hc
    simp only [Bool.and_eq_true] at hc
    have hc2 := blt_iff.1 hc.2
    have hcont : Cont (x.withBox d w.heap.size (#[] : Array Value).size) [mpTag ag, .arr (ks ++ vs) []] (#[] : Array Value).toList := .inr (.inr ⟨ag, _, _, rfl, rfl, fun r hr => (by cases hr), hc.1⟩)
    have hI2 := hI.withBoxO d hc2 #[] 0 [mpTag ag, .arr (ks ++ vs) []] (fun hv => by cases ag <;> cases hv) hcont
    have e1 : objOf [mpTag ag, .arr (ks ++ vs) []] (#[] : Array Value) 0 = .map #[] 0 := by unfold objOf; rw [isMp_tag]; rfl
    rw [e1] at hI2
    have hrep : Rep (x.withBox d w.heap.size (#[] : Array Value).size) (.pl d mapOff) (.map (some w.heap.size)) := by
     have := Rep.pl (x := x.withBox d w.heap.size (#[] : Array Value).size) d mapOff w.heap.size (by simp [X.withBox])
     rwa [ptrV_map] at this
    refine wp_value (v := .map (some w.heap.size)) (w' := w.alloc (.map #[] 0)) ?_ (hk _ (x.withBox d w.heap.size (#[] : Array Value).size) _ _ h ⟨hrep, hI2.tidy, Ext.withBox x d _ _⟩)
    simp [execOp, ho, Instr.makeMap]
   ·cases h
  ·cases h
 ·cases h
theorem sound_look (hI : Inv e x w m) (hT : RepL x tm a.tmps.toList) (hk : Goes e x m a o next k res) {t : TypeId} {y z : Operand} {ok : Bool} (ho : o.op = .lookup t y z ok)
  (h : (match e.P.underlying t with
  |some (.map kt _) => match evT e.P tm t y, evT e.P tm kt z with | some a, some x => lookE e.P m t a x ok k | _, _ => none
  |_ => none) = some res) : o.wp e.P a w next Q := by
 split at h
 ·rename_i kt et hu
  split at h
  ·rename_i av xv hy hz
   unfold lookE at h
   rw [hu] at h
   split at h
   ·rename_i kt' et' j off key he
    cases he
    split at h
    ·rename_i ag ks rows zs ag' hlk hzz hag hof
     split at h
     ·rename_i zr hzr
      split at h
      ·rename_i hc
       simp only [Bool.and_eq_true, beq_iff_eq] at hc
       obtain ⟨⟨hc1, rfl⟩, hc3⟩ := hc
       split at h
       ·rename_i v hv
        obtain ⟨d, kk, vs, hd, rfl, hkk⟩ := keyOk_inv hc1
        obtain rfl := beq_eq.1 hof
        obtain ⟨b, hb, hyv⟩ := (evT_rep hT hy).pl_inv
        rw [ptrV_map] at hyv
        have hm := lookupM_eq hlk
        obtain ⟨b', ty, arr, p1, _, p3, p4, _⟩ := hI.slot j _ hm
        rw [hb] at p1
        obtain rfl := Option.some.inj p1
        have hmv := p4.mp
        have hheap : w.heap[b]? = some (.map ⟨entOf arr.toList⟩ ty) := by rw [p3]; unfold objOf; rw [isMp_tag]
        -- the key
        have hkr := evT_rep hT hz
        have hkd : DV.ofKd kk key = true := by simp only [Row.ofKds, Bool.and_eq_true] at hc3; exact hc3.1
        generalize hkv : a.eval z = kv at hkr
        cases hkr with | dv _ _ hkr =>
        have hfk : flatKds (kk :: vs) = true := hmv.2.2
        obtain ⟨rfl, hk1⟩ := flat_cell (flatKds_mem hfk List.mem_cons_self) hkr hkd
        have hkey := hkk kv hkd
        -- the element's zero value
        obtain ⟨i, z0, hi, hz0, hr0⟩ := zeroOf_rep x hzz
        obtain ⟨hzf, _⟩ := RepL.flats hr0 hzr
        have hov : Row.ofKds vs zr = true := by simp only [Row.ofKds, Bool.and_eq_true] at hc3; exact hc3.2
        have hfv : flatKds vs = true := by cases kk <;> first | exact hfk | cases hfk
        obtain ⟨hz1, hz2⟩ := flat_row hfv hov hzf
        have hflat : flatRow (.val kv :: zr) := fun q hq => by
         rcases List.mem_cons.1 hq with rfl | hq
         ·exact ⟨kv, rfl, hk1⟩
         ·exact hz2 q hq
        have hzv : entryAV ag (kk :: vs) (.val kv :: zr) = some v → (kvOf ag (.val kv :: zr)).2 = z0 := fun hen => by
         rcases zAgg_zero hag hi hz0 with ⟨l, hl, hag2⟩ | ⟨hne, hag2⟩
         ·rw [hag2]
          show Value.agg ⟨zr.map DV.toV⟩ = _
          rw [hz1, hl]; rfl
         ·rw [cells_of hne] at hz1
          rw [hag2] at hen ⊢
          cases zr with
          |nil => simp at hz1
          |cons d0 l =>
           simp only [List.map_cons, List.cons.injEq] at hz1
           exact hz1.1
        have hfind := find_rows (ag := ag) hkk hkey (entOf arr.toList) rows 0 hmv.1 hmv.2.1
        have hck : ∀ em, (Instr.checkKey em 10000 kt kv).run e.P w = .ok () w := fun em => MapKept.run_checkKey hd hkey em 9999
        have hgo : ∀ (u : Value) (bo : Bool), Rep x v u → (Instr.lookup t (.map (some b)) kv ok).run e.P w = .ok (if ok then .tuple #[u, .bool bo] else u) w → mhas rows (.val kv) = bo → o.wp e.P a w next Q := fun u bo hru hrun hbo => by
         refine pure_op hI hk (v := if ok then .tuple #[u, .bool bo] else u) h ?_ ?_
         ·cases ok with
          |false => exact hru
          |true => rw [hbo]; exact .tup _ _ (.cons _ _ _ _ hru (.cons _ _ _ _ (.dv _ _ (.val _ rfl)) .nil))
         ·simp only [execOp, ho, Sem.run_bind, hyv, hkv]
          rw [hrun]; rfl
        rcases hfind with ⟨g1, g2, g3, _⟩ | ⟨jx, en, r, g1, g2, g3, g4, g5, g6, _⟩
        ·rw [g3] at hv
         have hru : Rep x v z0 := by rw [← hzv hv]; exact entry_rep hv hc3 hflat
         refine hgo z0 false hru ?_ g1
         simp [Instr.lookup, run_underlying hu, MapKept.run_getObj_map hheap, hck, MapKept.run_findKey hd g2, run_zero hi hz0, Result.andThen]
        ·rw [g6] at hv
         have hrm := List.mem_of_getElem? g5
         have hru : Rep x v en.val := by
          have h1 := entry_rep (x := x) hv (hmv.2.1 r hrm).1 (hmv.2.1 r hrm).2
          have h2 : (entOf arr.toList).map (fun e => (e.key, e.val)) = rows.map (kvOf ag) := hmv.1
          have h3 := congrArg (fun l => l[jx]?) h2
          simp only [List.getElem?_map, g3, g5, Option.map_some, Option.some.injEq] at h3
          rw [← h3] at h1
          exact h1
         refine hgo en.val true hru ?_ g1
         simp [Instr.lookup, run_underlying hu, MapKept.run_getObj_map hheap, hck, MapKept.run_findKey hd g2, Result.andThen]
       ·cases h
      ·cases h
     ·cases h
    ·cases h
   ·cases h
  ·cases h
 ·cases h
theorem Inv.withMap {e : Env} {x : X} {w : World} {m : Mem} (h : Inv e x w m) (k : Nat) (ag : Bool) (ks : List Kd) (rows rows' : Rows) (b : Nat) (hk : lookup m k = some [mpTag ag, .arr ks rows]) (hb : x.loc k = some b)
  (es es' : Array MapEntry) (cl cl' : Nat) (hg : w.heap[b]? = some (.map es cl)) (hmv : MapV ag ks rows' (es'.toList.flatMap encE)) :
  Inv e x { w with heap := w.heap.setIfInBounds b (.map es' cl') } (write m k [mpTag ag, .arr ks rows']) := by
 have hset := MapKept.heap_set (o' := Obj.map es' cl') hg
 obtain ⟨b0, ty0, arr0, g1, g2, _, _, g5⟩ := h.slot k _ hk
 rw [hb] at g1
 obtain rfl := Option.some.inj g1
 have hget : ∀ {i l}, lookup (write m k [mpTag ag, .arr ks rows']) i = some l → ∃ l', lookup m i = some l' := by
  intro i l hi
  rw [lookup_write] at hi
  by_cases hik : i = k
  ·exact ⟨_, by rw [hik]; exact hk⟩
  ·rw [if_neg hik] at hi; exact ⟨l, hi⟩
 refine ⟨?_, ?_, ?_, ?_, ?_, h.toktok, h.os, h.tape, h.output, ?_, ?_, h.mono, h.new, h.ext, h.low, ?_, h.glob⟩
 ·intro b' o v hv
  have hne : b' ≠ b := fun e => by rw [e, g5] at hv; cases hv
  rw [World.cell?_of_block (w := w) (hset.2 b' hne)]
  exact h.sub b' o v hv
 ·intro j ds hj
  rw [lookup_write] at hj
  by_cases hjk : j = k
  ·rw [if_pos hjk] at hj
   obtain rfl := Option.some.inj hj
   refine ⟨b, cl', (es'.toList.flatMap encE).toArray, by rw [hjk]; exact hb, by rw [hjk]; exact g2, ?_, .inr (.inr ⟨ag, ks, rows', rfl, by simpa using hmv⟩), g5⟩
   unfold objOf
   rw [isMp_tag]
   simp only [List.toList_toArray, entOf_enc]
   exact hset.1
  ·rw [if_neg hjk] at hj
   obtain ⟨b2, t2, a2, h6, h7, h8, h9, h10⟩ := h.slot j ds hj
   have hne : b2 ≠ b := fun e => hjk (h.inj j k ds _ b hj hk (by rw [h6, e]) hb)
   exact ⟨b2, t2, a2, h6, h7, by rw [hset.2 b2 hne]; exact h8, h9, h10⟩
 ·intro j j' ds ds' b' hj hj'
  obtain ⟨l, hl⟩ := hget hj
  obtain ⟨l', hl'⟩ := hget hj'
  exact h.inj j j' l l' b' hl hl'
 ·intro j v sz hj a n c hv hn
  obtain ⟨cur, t, h1, h2, h3, h4, h5, h6, h7⟩ := h.tok j v sz hj a n c hv hn
  have hne : a.block ≠ b := fun e => h.tokslot j a n c sz k _ (by rw [hj, hv]) hn hk (by rw [e]; exact hb)
  exact ⟨cur, t, h1, h2, h3, by rw [hset.2 a.block hne]; exact h4, h5, h6, h7⟩
 ·intro j a n c sz i ds hj hn hi
  obtain ⟨l, hl⟩ := hget hi
  exact h.tokslot j a n c sz i l hj hn hl
 ·have := h.size
  simpa using this
 ·intro b' hb' hE hL
  have hne : b' ≠ b := fun e => by rcases g2 with g2 | g2; omega; exact hE (e ▸ g2.1)
  rw [hset.2 b' hne]; exact h.old b' hb' hE hL
 ·refine h.more.step (fun j b' ds hj hb' => ?_) (fun b' ar' t' hb' => ?_) (fun _ _ => rfl) rfl (Nat.le_refl _)
  ·rw [lookup_write] at hj
   by_cases hjk : j = k
   ·rw [if_pos hjk] at hj
    cases hj
    exact ⟨[mpTag ag, .arr ks rows], by rw [hjk]; exact hk, hb', rfl, fun hv => (by cases ag <;> cases hv), fun hm => (by rw [isMp_tag] at hm; cases hm)⟩
   ·rw [if_neg hjk] at hj; exact ⟨ds, hj, hb', rfl, id, id⟩
  ·have hne : b' ≠ b := fun e => by rw [e, hg] at hb'; cases hb'
   exact ⟨ar', by rw [hset.2 b' hne]; exact hb', Nat.le_refl _⟩
theorem one_cells {u : Value} (h : u.oneCell' = true) : u.cells = #[u] := by
 cases u <;> first | rfl | cases h
theorem sound_put (hI : Inv e x w m) (hT : RepL x tm a.tmps.toList) (hk : Goes e x m a o next k res) {t : TypeId} {y z v' : Operand} (ho : o.op = .mapUpdate t y z v')
  (h : (match e.P.underlying t with
  |some (.map kt et) => match evT e.P tm t y, evT e.P tm kt z, evT e.P tm et v' with | some a, some x, some v => putE e.P m t a x v k | _, _, _ => none
  |_ => none) = some res) : o.wp e.P a w next Q := by
 split at h
 ·rename_i kt et hu
  split at h
  ·rename_i av xv vv hy hz hvv
   unfold putE at h
   rw [hu] at h
   split at h
   ·rename_i kt' et' j off key new he hnew
    cases he
    split at h
    ·rename_i ag ks rows fl hlk hfl hof
     split at h
     ·rename_i hc
      simp only [Bool.and_eq_true, beq_iff_eq] at hc
      obtain ⟨⟨hc1, hc2⟩, hc3⟩ := hc
      obtain ⟨d, kk, vs, hd, rfl, hkk⟩ := keyOk_inv hc1
      obtain rfl := beq_eq.1 hof
      obtain ⟨b, hb, hyv⟩ := (evT_rep hT hy).pl_inv
      rw [ptrV_map] at hyv
      have hm := lookupM_eq hlk
      obtain ⟨b', ty, arr, p1, _, p3, p4, _⟩ := hI.slot j _ hm
      rw [hb] at p1
      obtain rfl := Option.some.inj p1
      have hmv := p4.mp
      have hheap : w.heap[b]? = some (.map ⟨entOf arr.toList⟩ ty) := by rw [p3]; unfold objOf; rw [isMp_tag]
      have hkr := evT_rep hT hz
      have hkd : DV.ofKd kk key = true := by simp only [Row.ofKds, Bool.and_eq_true] at hc3; exact hc3.1
      generalize hkv : a.eval z = kv at hkr
      cases hkr with | dv _ _ hkr =>
      have hfk : flatKds (kk :: vs) = true := hmv.2.2
      obtain ⟨rfl, hk1⟩ := flat_cell (flatKds_mem hfk List.mem_cons_self) hkr hkd
      have hkey := hkk kv hkd
      have hur := evT_rep hT hvv
      generalize huv : a.eval v' = u at hur
      obtain ⟨hfv, hone⟩ := RepL.flats (hur.cells' hnew) hfl
      have hov : Row.ofKds vs fl = true := by simp only [Row.ofKds, Bool.and_eq_true] at hc3; exact hc3.2
      have hfv2 : flatKds vs = true := by cases kk <;> first | exact hfk | cases hfk
      obtain ⟨hz1, hz2⟩ := flat_row hfv2 hov hfv
      have hflat : flatRow (.val kv :: fl) := fun q hq => by
       rcases List.mem_cons.1 hq with rfl | hq
       ·exact ⟨kv, rfl, hk1⟩
       ·exact hz2 q hq
      have hval : kvOf ag (.val kv :: fl) = (kv, u) := by
       have h2 : (kvOf ag (.val kv :: fl)).2 = u := by
        rw [hc2]
        cases vv with
        |agg cs =>
         cases hur with | agg _ us _ =>
         show Value.agg ⟨fl.map DV.toV⟩ = _
         rw [hz1]; rfl
        |dv dd =>
         cases hur with | dv _ _ hdd =>
         have hoc := hdd.one
         rw [one_cells hoc] at hz1
         cases fl with
         |nil => simp at hz1
         |cons d0 l => simp only [List.map_cons, List.cons.injEq] at hz1; exact hz1.1
        |sl nl kd rs rr =>
         cases hur with | sl _ _ _ _ _ hdd _ =>
         have hoc := hdd.one
         rw [one_cells hoc] at hz1
         cases fl with
         |nil => simp at hz1
         |cons d0 l => simp only [List.map_cons, List.cons.injEq] at hz1; exact hz1.1
        |tup => cases hnew
        |junk => cases hnew
        |_ => simp only [AV.cells, Option.some.injEq] at hnew; subst hnew; cases hfl
       have h1 : (kvOf ag (.val kv :: fl)).1 = kv := rfl
       rw [← h2]; exact Prod.ext h1 rfl
      have hfind := find_rows (ag := ag) hkk hkey (entOf arr.toList) rows 0 hmv.1 hmv.2.1
      have hck : ∀ em, (Instr.checkKey em 10000 kt kv).run e.P w = .ok () w := fun em => MapKept.run_checkKey hd hkey em 9999
      have hmap : (entOf arr.toList).map (fun e => (e.key, e.val)) = rows.map (kvOf ag) := hmv.1
      have hgo : ∀ (es' : Array MapEntry) (cl' : Nat), (Instr.mapUpdate t (.map (some b)) kv u).run e.P w = .ok () { w with heap := w.heap.setIfInBounds b (.map es' cl') } →
        MapV ag (kk :: vs) (mput rows (.val kv) (.val kv :: fl)) (es'.toList.flatMap encE) → o.wp e.P a w next Q := fun es' cl' hrun hmv' => by
       have hI2 := hI.withMap j ag (kk :: vs) rows _ b hm hb ⟨entOf arr.toList⟩ es' ty cl' hheap hmv'
       refine wp_skip (w' := { w with heap := w.heap.setIfInBounds b (.map es' cl') }) ?_ (hk _ x _ undef h ⟨.junk _, by simpa [dropAll, scrubM_nil, writes] using hI2.tidy, Ext.refl _ _ _⟩)
       simp only [execOp, ho, Sem.run_bind, hyv, hkv, huv]
       rw [hrun]; rfl
      rcases hfind with ⟨g1, g2, _, g4⟩ | ⟨jx, en, r, g1, g2, g3, g4, g5, _, g7⟩
      ·refine hgo (((entOf arr.toList).toArray).push { key := kv, val := u, born := ty }) (ty + 1) ?_ ?_
       ·simp [Instr.mapUpdate, run_underlying hu, MapKept.run_getObj_map hheap, hck, MapKept.run_findKey hd g2, MapKept.run_setObj_map _ hheap, Result.andThen]
       ·rw [g4]
        refine ⟨?_, fun q hq => ?_, hfk⟩
        ·rw [entOf_enc]
         simp only [Array.toList_push, List.map_append, List.map_cons, List.map_nil, hval]
         rw [← hmap]
        ·rcases List.mem_append.1 hq with hq | hq
         ·exact hmv.2.1 q hq
         ·simp only [List.mem_singleton] at hq; subst hq; exact ⟨hc3, hflat⟩
      ·refine hgo ((entOf arr.toList).toArray.modify jx fun e => { e with key := kv, val := u }) ty ?_ ?_
       ·have hlt : jx < (entOf arr.toList).length := (List.getElem?_eq_some_iff.1 g3).1
        have hst : (Instr.keyThatStays kv kv).run e.P w = .ok kv w := by simp [Instr.keyThatStays, key_bits hkey]
        have hk3 : (Option.map (fun x : MapEntry => x.key) (entOf arr.toList)[jx]?).getD kv = kv := by
         rw [g3]; exact g4
        simp only [Nat.zero_add] at g2
        simp [Instr.mapUpdate, run_underlying hu, MapKept.run_getObj_map hheap, hck, MapKept.run_findKey hd g2, MapKept.run_setObj_map _ hheap, Result.andThen]
        rw [hk3, hst]
        simp [MapKept.run_setObj_map _ hheap]
       ·rw [g7]
        refine ⟨?_, fun q hq => ?_, hfk⟩
        ·rw [entOf_enc]
         have e1 : ((entOf arr.toList).toArray.modify jx fun e => { e with key := kv, val := u }).toList = (entOf arr.toList).modify jx (fun e => { e with key := kv, val := u }) := by simp
         rw [e1, List.map_set, hval, ← hmap]
         apply List.ext_getElem?
         intro i
         simp only [List.getElem?_map, List.getElem?_modify, List.getElem?_set]
         by_cases hij : jx = i
         ·subst hij
          simp [g3, (List.getElem?_eq_some_iff.1 g3).1]
         ·simp [hij]
        ·rcases List.mem_or_eq_of_mem_set hq with hq | rfl
         ·exact hmv.2.1 q hq
         ·exact ⟨hc3, hflat⟩
     ·cases h
    ·cases h
   ·cases h
  ·cases h
 ·cases h
end Go.Den
namespace Go.Den
variable {e : Env} {x : X} {w : World} {m : Mem} {tm : List AV} {a : Act} {next : Act → World → Prop} {Q : Exit → Act → World → Prop} {R : Type} {res : R} {k kp : Eff → Option R} {o : Oper}

theorem sound_indexAddr (hI : Inv e x w m) (hT : RepL x tm a.tmps.toList) (hk : Goes e x m a o next k res) {t : TypeId} {y z : Operand} (ho : o.op = .indexAddr t y z)
  (h : (match evT e.P tm t y, evT e.P tm 0 z with
  |some (.sl _ ks rows r), some (.dv (.val (.int _ i))) =>
   if elemOk e.P t ks && Nat.blt 0 ks.length then if 0 ≤ i then if i < (rows.length : Int) then k (.pure (.pv ks (rows.getD i.toNat []) r.at)) else none else none else none
  |some (.ms j ks off n _), some (.dv (.val (.int _ i))) =>
   if elemOk e.P t ks && Nat.blt 0 ks.length then if 0 ≤ i then if i < (n : Int) then k (.pure (.pa j ks (off + i.toNat) 0)) else none else none else none
  |some (.pl j o), some (.dv (.val (.int _ i))) =>
   match e.P.underlying t with
   |some (.array l e') => match size? e.P e' with
    |some n => if 0 ≤ i then if i < (l : Int) then if Nat.blt (o + l * n) mapOff then k (.pure (.pl j (o + i.toNat * n))) else none else none else none
    |none => none
   |_ => none
  |_, _ => none) = some res) : o.wp e.P a w next Q := by
 split at h
 ·rename_i n ks rows r j i hv hi
  split at h
  ·rename_i hok
   simp only [Bool.and_eq_true] at hok
   obtain ⟨el, ht, hsz⟩ := elemOk_size hok.1
   split at h
   ·rename_i h0
    split at h
    ·rename_i h1
     have hr := evT_rep hT hv
     have hi' := Rep.val (evT_rep hT hi)
     have hlt : i.toNat < rows.length := by omega
     generalize hz : a.eval y = u at hr
     cases hr with
     |sl _ _ _ _ _ hd hrt =>
     rcases hd.rows with ⟨_, rfl, _⟩ | ⟨ad, c, _, rfl, hc, hsp, hro⟩
     ·simp at hlt
     ·have hne : rows ≠ [] := fun hh => by subst hh; simp at hlt
      obtain ⟨q1, q2⟩ := hro.get hlt
      have hat : pvOff r.at = 0 := by cases r <;> rfl
      have hold : isOld r.at = true → CellsAt x.M0 ad.block (ad.off + i.toNat * ks.length) (rows.getD i.toNat []) := by
       cases r with
       |old =>
        intro _
        have hrt : RepD x.M0 _ _ := hrt
        rcases hrt.rows with ⟨_, rfl, _⟩ | ⟨ad', c', _, he, _, _, hro'⟩
        ·simp at hlt
        ·cases he
         exact (hro'.get hlt).2
       |no => intro h'; cases h'
       |ex => intro h'; cases h'
       |tok k => intro h'; cases h'
      refine pure_op hI hk h (.pv ks _ r.at ad.block (ad.off + i.toNat * ks.length) q1 q2 hold) ?_
      simp [execOp, hat, ho, Instr.indexAt, asIntOf, hi', hz, run_underlying ht, h0, h1, run_size hsz, add_addr (hsp hne)]
    ·cases h
   ·cases h
  ·cases h
 ·rename_i j ks off n c kk i hv hi
  split at h
  ·rename_i hok
   simp only [Bool.and_eq_true] at hok
   obtain ⟨el, ht, hsz⟩ := elemOk_size hok.1
   split at h
   ·rename_i h0
    split at h
    ·rename_i h1
     have hr := evT_rep hT hv
     have hi' := Rep.val (evT_rep hT hi)
     generalize hz : a.eval y = u at hr
     cases hr with
     |ms _ _ _ _ _ b o' c' hb g1 g2 g3 =>
     have ho' := g2 (by omega)
     subst ho'
     have hpa : Rep x (.pa j ks (off + i.toNat) 0) (.pointer (some ⟨b, off * ks.length + i.toNat * ks.length, none⟩)) := by
      have := Rep.pa (x := x) j ks (off + i.toNat) 0 b hb
      rwa [Nat.add_zero, Nat.add_mul] at this
     refine pure_op hI hk h hpa ?_
     simp [execOp, ho, Instr.indexAt, asIntOf, hi', hz, run_underlying ht, h0, h1, run_size hsz, add_addr]
    ·cases h
   ·cases h
  ·cases h
 ·rename_i j oo kk i hv hi
  split at h
  ·rename_i l e' ht
   split at h
   ·rename_i n hsz
    split at h
    ·rename_i h0
     split at h
     ·rename_i h1
      split at h
      rotate_left
      ·cases h
      rename_i hlim
      have hlim := blt_iff.1 hlim
      have hr := evT_rep hT hv
      have hi' := Rep.val (evT_rep hT hi)
      obtain ⟨b, hb, hz⟩ := hr.pl_inv
      have hle : i.toNat * n ≤ l * n := Nat.mul_le_mul_right _ (by omega)
      have q1 : Nat.beq oo mapOff = false := Bool.eq_false_iff.2 fun hb2 => by have := beq_eq.1 hb2; omega
      have q2 : Nat.beq (oo + i.toNat * n) mapOff = false := Bool.eq_false_iff.2 fun hb2 => by have := beq_eq.1 hb2; omega
      rw [ptrV_ptr q1] at hz
      refine pure_op hI hk h (.pl j (oo + i.toNat * n) b hb) ?_
      rw [ptrV_ptr q2]
      simp [execOp, ho, Instr.indexAt, Instr.sureAddr, asIntOf, hi', hz, run_underlying ht, h0, h1, run_size hsz, add_addr]
     ·cases h
    ·cases h
   ·cases h
  ·cases h
 ·cases h

theorem bt_get (s : ByteArray) (i : Int) (h0 : 0 ≤ i) (h1 : i < (s.size : Int)) : s[i.toNat]? = some (s[i.toNat]'(by omega)) ∧ ((s[i.toNat]'(by omega)).toNat : Int) = bt s i := by
 have hlt : i.toNat < s.size := by omega
 refine ⟨by simp [getElem?_pos, hlt], ?_⟩
 unfold bt
 have hlt' : i.toNat < s.data.toList.length := by simpa using hlt
 rw [List.getD_eq_getElem?_getD, List.getElem?_eq_getElem hlt']
 simp only [Option.getD_some, Array.getElem_toList]
 rfl

theorem pickIx_get {R : Type} {k : AV → Option R} {i : Int} {res : R} : ∀ {cs : List AV} {j : Int}, pickIx k i j cs = some res → ∃ (q : Nat) (c : AV), cs[q]? = some c ∧ i = j + (q : Int) ∧ k c = some res
 |[], j, h => by cases h
 |c :: cs, j, h => by
  unfold pickIx at h
  split at h
  ·rename_i he
   exact ⟨0, c, rfl, by rw [he]; simp, h⟩
  ·obtain ⟨q, c', h1, h2, h3⟩ := pickIx_get h
   exact ⟨q + 1, c', by simpa using h1, by rw [h2]; simp; omega, h3⟩
theorem sound_index (hI : Inv e x w m) (hT : RepL x tm a.tmps.toList) (hk : Goes e x m a o next k res) {t : TypeId} {y z : Operand} (ho : o.op = .index t y z)
  (h : (match evT e.P tm t y, evT e.P tm 0 z with
  |some (.dv (.val (.string s))), some (.dv (.val (.int _ i))) =>
   match e.P.underlying t with
   |some .string => if 0 ≤ i then if i < (s.size : Int) then k (.pure (.I .u8 (bt s i))) else none else none
   |_ => none
  |some (.agg cs), some (.dv (.val (.int _ i))) =>
   match e.P.underlying t with
   |some (.array l el) => match kdsOf e.P 9 el, agg? e.P el, size? e.P el, AV.flats cs with
    |some [kd], some false, some 1, some row =>
     if Nat.beq cs.length l && Row.ofKds (List.replicate l kd) row then
      if 0 ≤ i then if i < (l : Int) then k (.pure (Row.cell kd row i.toNat)) else none else none
     else none
    |some [_], some false, some 1, none => if Nat.beq cs.length l then pickIx (fun v => k (.pure v)) i 0 cs else none
    |_, _, _, _ => none
   |_ => none
  |_, _ => none) = some res) : o.wp e.P a w next Q := by
 split at h
 ·rename_i s j i hv hi
  split at h
  ·rename_i ht
   split at h
   ·rename_i h0
    split at h
    ·rename_i h1
     have hs := Rep.val (evT_rep hT hv)
     have hi' := Rep.val (evT_rep hT hi)
     obtain ⟨q1, q2⟩ := bt_get s i h0 h1
     refine pure_op hI hk h (rep_val x rfl) (v := .int .u8 (bt s i)) ?_
     simp [execOp, ho, Instr.index, asIntOf, hi', hs, run_underlying ht, h0, q1, q2]
    ·cases h
   ·cases h
  ·cases h
 ·rename_i cs j i hv hi
  split at h
  ·rename_i l el ht
   split at h
   ·rename_i kd row hks hag hsz hrow
    split at h
    ·rename_i hc
     simp only [Bool.and_eq_true, beq_eq] at hc
     obtain ⟨hcl, hof⟩ := hc
     split at h
     ·rename_i h0
      split at h
      ·rename_i h1
       have hr := evT_rep hT hv
       have hi' := Rep.val (evT_rep hT hi)
       generalize hz : a.eval y = u at hr
       cases hr with
       |agg _ vs hvs =>
       obtain ⟨c1, c2⟩ := Row.toCells hvs rfl hrow
       have hlt : i.toNat < l := by omega
       obtain ⟨d, hd, hkd⟩ := Row.ofKds_get hof (j := i.toNat) (k := kd) (by rw [List.getElem?_replicate, if_pos hlt])
       obtain ⟨v, hv1, hv2⟩ := c2 _ d hd
       have hrep : Rep x (Row.cell kd row i.toNat) v := by
        -- one cell of a row, known by itself
        have hat : Row.at row i.toNat = d := by simp [Row.at, List.getD, hd]
        cases kd with
        |b => cases d with
         |val u => cases u <;> simp [DV.ofKd] at hkd; simp only [Row.cell, Row.B, hat, DV.toB]; exact .dv _ _ hv2
         |sl => simp [DV.ofKd] at hkd
        |i k => cases d with
         |val u => cases u <;> simp [DV.ofKd] at hkd; subst hkd; simp only [Row.cell, Row.I, hat, DV.toI]; exact .dv _ _ hv2
         |sl => simp [DV.ofKd] at hkd
        |s => cases d with
         |val u => cases u <;> simp [DV.ofKd] at hkd; simp only [Row.cell, Row.S, hat, DV.toS]; exact .dv _ _ hv2
         |sl => simp [DV.ofKd] at hkd
        |sl ks => cases d with
         |val u => simp [DV.ofKd] at hkd
         |sl n ls rows => simp only [DV.ofKd] at hkd; obtain rfl := Kd.sameL_eq hkd; simp only [Row.cell, Row.N, Row.R, hat, DV.toNl, DV.toRows]; exact .sl _ _ _ _ _ hv2 trivial
        |o => cases d with
         |val u => simp only [Row.cell, Row.V, hat, DV.toV]; exact .dv _ _ hv2
         |sl => simp [DV.ofKd] at hkd
       refine pure_op hI hk h hrep ?_
       have hp := run_partOne (w := w) hag ⟨vs⟩ i.toNat (v := v) (by simpa using hv1)
       simp [execOp, ho, Instr.index, asIntOf, hi', hz, run_underlying ht, h0, h1, run_size hsz, hp]
      ·cases h
     ·cases h
    ·cases h
   ·rename_i kd hks hag hsz hrow
    split at h
    ·rename_i hcl
     have hcl := beq_eq.1 hcl
     obtain ⟨q, c, hq, he, hk'⟩ := pickIx_get h
     have hr := evT_rep hT hv
     have hi' := Rep.val (evT_rep hT hi)
     generalize hz : a.eval y = u at hr
     cases hr with
     |agg _ vs hvs =>
     obtain ⟨v, hv1, hrep⟩ := hvs.get hq
     have hlt : q < l := by rw [← hcl]; exact (List.getElem?_eq_some_iff.1 hq).1
     have h0 : 0 ≤ i := by omega
     have h1 : i < (l : Int) := by omega
     refine pure_op hI hk hk' hrep ?_
     have hp := run_partOne (w := w) hag ⟨vs⟩ i.toNat (v := v) (by rw [he]; simpa using hv1)
     simp [execOp, ho, Instr.index, asIntOf, hi', hz, run_underlying ht, h0, h1, run_size hsz, hp]
    ·cases h
   ·cases h
  ·cases h
 ·cases h

theorem sound_typeAssert (hI : Inv e x w m) (hT : RepL x tm a.tmps.toList) (hk : Goes e x m a o next k res) {t0 t : TypeId} {y : Operand} (ho : o.op = .typeAssert y t0 t false)
  (h : (match e.P.underlying t, evT e.P tm 0 y with
  |some (.interface _), _ => none
  |some _, some (.ifc u v) => if Nat.beq u t then k (.pure v) else none
  |_, _ => none) = some res) : o.wp e.P a w next Q := by
 split at h
 ·cases h
 ·rename_i d u v hne hd hv
  split at h
  ·rename_i heq
   simp only [beq_eq] at heq
   subst heq
   have hr := evT_rep hT hv
   generalize hz : a.eval y = z at hr
   cases hr with
   |ifc _ _ v' hv' =>
   refine pure_op hI hk h hv' ?_
   have : (Instr.typeAssert (.iface u v') t0 u false).run e.P w = .ok v' w := by
    cases d <;> first | exact (hne _ rfl).elim | simp [Instr.typeAssert, run_underlying hd]
   simp only [execOp, ho, Sem.run_bind, hz]
   rw [this]; rfl
  ·cases h
 ·cases h

theorem sound_extract (hI : Inv e x w m) (hT : RepL x tm a.tmps.toList) (hk : Goes e x m a o next k res) {y : Operand} {i : Nat} (ho : o.op = .extract y i)
  (h : (match evT e.P tm 0 y with
  |some (.tup vs) => match vs[i]? with | some v => k (.pure v) | none => none
  |_ => none) = some res) : o.wp e.P a w next Q := by
 split at h
 ·rename_i vs hv
  split at h
  ·rename_i v hv'
   have hr := evT_rep hT hv
   generalize hz : a.eval y = z at hr
   cases hr with
   |tup _ us hus =>
   obtain ⟨u, hu, hru⟩ := hus.get hv'
   refine pure_op hI hk h hru ?_
   have hu' : (⟨us⟩ : Array Value)[i]? = some u := by simpa using hu
   simp [execOp, ho, Instr.extract, hz, hu']
  ·cases h
 ·cases h

theorem sound_panic (hI : Inv e x w m) (hT : RepL x tm a.tmps.toList) {y : Operand} (ho : o.op = .panic y)
  (hkp : ∀ eff x' w' v, kp eff = some res → After e x x' w' m v eff → Q (.panic [{ v, recovered := false }]) a w')
  (h : (match evT e.P tm o.type y with
  |some (.ifc t v) => kp (.pure (.ifc t v))
  |_ => none) = some res) : o.wp e.P a w next Q := by
 split at h
 ·rename_i t v hv
  have hr := evT_rep hT hv
  have hr' := hr
  generalize hz : a.eval y = z at hr hr'
  cases hr with
  |ifc _ _ u hu =>
  have hq := hkp _ x w _ h ⟨hr', hI, Ext.refl _ _ _⟩
  unfold Oper.wp
  have : (execOp a.eval o).run e.P w = .halt (.panic (.iface t u)) w := by simp [execOp, ho, hz, Instr.panic, goPanic]
  rw [this]; exact hq
 ·cases h

theorem run_call_builtin {P : Program} {b : Builtin} {ys : List Operand} {ts : Array TypeId} (ho : o.op = .call { callee := .builtin b, args := ⟨ys⟩, argTypes := ts }) :
  ∃ consts, (execOp a.eval o).run P w = (builtin b ts o.type consts ⟨ys.map a.eval⟩).run P w := by
 refine ⟨(⟨ys⟩ : Array Operand).map fun | .const _ => true | _ => false, ?_⟩
 simp only [execOp, ho, resolve, invoke, Sem.run_bind, Sem.run_pure, Result.andThen_ok, List.map_toArray]
 rfl

theorem sound_builtin (hI : Inv e x w m) (hT : RepL x tm a.tmps.toList) (hk : Goes e x m a o next k res) {b : Builtin} {ys : Array Operand} {ts : Array TypeId} (ho : o.op = .call { callee := .builtin b, args := ys, argTypes := ts }) {args : List AV}
  (hargs : evs e.P tm ts.toList ys.toList = some args) (h : builtinE e.P m o.dst b ts.toList args k = some res) : o.wp e.P a w next Q := by
 have hr := evs_rep hT hargs
 obtain ⟨ys⟩ := ys
 obtain ⟨ts⟩ := ts
 simp only at hr h hargs
 obtain ⟨consts, hrun⟩ := run_call_builtin (a := a) (w := w) (P := e.P) ho
 generalize hys : ys.map a.eval = vals at hr hrun
 clear hargs hys
 unfold builtinE at h
 simp only [appTokK_eq] at h
 split at h
 ·rename_i s
  split at h
  ·rename_i t ts'
   split at h
   ·rename_i ht
    cases hr with | cons _ v _ vs h1 h2 => ?_
    cases h2
    obtain rfl := Rep.val h1
    exact pure_op hI hk h (rep_val x rfl) (v := .int .i64 s.size) (by rw [hrun]; simp [builtin, Builtin.len_, run_underlying ht, goInt])
   ·cases h
  ·cases h
 ·rename_i n ks rows r
  split at h
  ·rename_i t ts'
   split at h
   ·rename_i el ht
    cases hr with | cons _ v _ vs h1 h2 => ?_
    cases h2
    have : ∃ q c, v = .slice q rows.length c := by
     cases h1 with
     |sl _ _ _ _ _ hd _ =>
     rcases hd.rows with ⟨_, rfl, rfl⟩ | ⟨ad, c, _, rfl, _⟩
     ·exact ⟨none, 0, rfl⟩
     ·exact ⟨some ad, c, rfl⟩
    obtain ⟨q, c, rfl⟩ := this
    exact pure_op hI hk h (rep_val x rfl) (v := .int .i64 rows.length) (by rw [hrun]; simp [builtin, Builtin.len_, run_underlying ht, goInt])
   ·cases h
  ·cases h
 ·rename_i j ks off n c
  split at h
  ·rename_i t ts'
   split at h
   ·rename_i el ht
    cases hr with | cons _ v _ vs h1 h2 => ?_
    cases h2
    cases h1 with | ms _ _ _ _ _ b o' c' hb g1 g2 g3 => ?_
    exact pure_op hI hk h (rep_val x rfl) (v := .int .i64 n) (by rw [hrun]; simp [builtin, Builtin.len_, run_underlying ht, goInt])
   ·cases h
  ·cases h
 ·rename_i j p l q
  split at h
  ·rename_i hjl
   subst hjl
   cases hr with | cons _ v _ vs h1 h2 => ?_
   cases h2 with | cons _ v2 _ vs2 h3 h4 => ?_
   cases h4
   obtain rfl := Rep.val h1; obtain rfl := Rep.val h3
   exact pure_op hI hk h (rep_val x rfl) (v := .int j (if q < p then q else p)) (by rw [hrun]; simp [builtin, Builtin.min_, Builtin.min2])
  ·cases h
 ·rename_i j p l q
  split at h
  ·rename_i hjl
   subst hjl
   cases hr with | cons _ v _ vs h1 h2 => ?_
   cases h2 with | cons _ v2 _ vs2 h3 h4 => ?_
   cases h4
   obtain rfl := Rep.val h1; obtain rfl := Rep.val h3
   exact pure_op hI hk h (rep_val x rfl) (v := .int j (if q > p then q else p)) (by rw [hrun]; simp [builtin, Builtin.max_, Builtin.max2])
  ·cases h
 ·rename_i n ks rows r n2 ks2 rows2 r2
  split at h
  ·rename_i d t t2 hd
   split at h
   ·rename_i el ht
    split at h
    ·rename_i i ke strike hi hke hst
     split at h
     ·rename_i z hz
      split at h
      ·rename_i hc
       simp only [Bool.and_eq_true, beq_eq, Nat.blt_eq] at hc
       obtain ⟨⟨⟨⟨⟨⟨c1, c2⟩, c3⟩, c4⟩, c5⟩, c6⟩, c7⟩ := hc
       subst c1
       obtain rfl := Kd.sameL_eq c2
       obtain rfl := Kd.sameL_eq c3
       split at h
       ·rename_i hlen
        cases hr with | cons _ v _ vs h1 h2 => ?_
        cases h2 with | cons _ v2 _ vs2 h3 h4 => ?_
        cases h4
        obtain ⟨v', w', x', p1, p2, p3, p4⟩ := append_ok hI h1 h3 (d := d) hst (ty := o.type) ht hi hz c4 c5 c6 (u8El_imp c7) hlen
        refine wp_value (v := v') (w' := w') ?_ (hk _ x' _ _ h ⟨p2, by simpa [dropAll, writes] using p3.tidy, p4⟩)
        rw [hrun]
        simp only [builtin, Sem.run_bind]
        rw [p1]; rfl
       ·cases h
      ·cases h
     ·cases h
    ·cases h
   ·cases h
  ·cases h
 ·rename_i j ks off n c n2 ks2 rows2 r2
  split at h
  ·rename_i d t t2 hd
   split at h
   ·rename_i el ht
    split at h
    ·rename_i i ke ks3 hi hke hla
     split at h
     ·rename_i z hz
      split at h
      ·rename_i hc
       simp only [Bool.and_eq_true, beq_eq, Nat.blt_eq] at hc
       obtain ⟨⟨⟨⟨⟨⟨⟨⟨⟨⟨c1, c2⟩, c3⟩, c3'⟩, c4⟩, c5⟩, c6⟩, c7⟩, c8⟩, c9⟩, c10⟩ := hc
       subst c1; subst c7; subst c8
       obtain rfl := Kd.sameL_eq c2
       obtain rfl := Kd.sameL_eq c3
       obtain rfl := Kd.sameL_eq c3'
       split at h
       ·rename_i hlen
        cases hr with | cons _ v _ vs h1 h2 => ?_
        cases h2 with | cons _ v2 _ vs2 h3 h4 => ?_
        cases h4
        obtain ⟨v', w', x', p1, p2, p3, p4⟩ := append_ms hI c9 c10 h1 (lookupA_eq hla) h3 (ty := o.type) ht hi hz c4 c5 c6 hlen
        refine wp_value (v := v') (w' := w') ?_ (hk _ x' _ _ h ⟨p2, p3.tidy, p4⟩)
        rw [hrun]
        simp only [builtin, Sem.run_bind]
        rw [p1]; rfl
       ·cases h
      ·cases h
     ·cases h
    ·cases h
   ·cases h
  ·cases h
 ·rename_i n ks rows r s
  split at h
  ·rename_i d t t2 hd
   split at h
   ·rename_i el ht ht2
    split at h
    ·rename_i i ke strike hi hke hu8 hst
     split at h
     ·rename_i z hz
      split at h
      ·rename_i hc
       simp only [Bool.and_eq_true, beq_eq, Nat.blt_eq] at hc
       obtain ⟨⟨⟨⟨⟨c2, c3⟩, c4⟩, c5⟩, c6⟩, c7⟩ := hc
       obtain rfl := Kd.sameL_eq c2
       obtain rfl := Kd.sameL_eq c3
       split at h
       ·rename_i hlen
        cases hr with | cons _ v _ vs h1 h2 => ?_
        cases h2 with | cons _ v2 _ vs2 h3 h4 => ?_
        cases h4
        obtain rfl := Rep.val h3
        obtain ⟨v', w', x', p1, p2, p3, p4⟩ := append_str hI h1 (d := d) hst (ty := o.type) ht ht2 hi hz c4 c5 c6 (u8El_imp c7 rfl) hlen
        refine wp_value (v := v') (w' := w') ?_ (hk _ x' _ _ h ⟨p2, by simpa [dropAll, writes] using p3.tidy, p4⟩)
        rw [hrun]
        simp only [builtin, Sem.run_bind]
        rw [p1]; rfl
       ·cases h
      ·cases h
     ·cases h
    ·cases h
   ·cases h
  ·cases h
 ·rename_i j ks off n c
  cases hr with | cons _ v _ vs h1 h2 => ?_
  cases h2
  have hts : ∃ t, ts = [t] := by
   unfold clearE at h
   split at h
   ·exact ⟨_, rfl⟩
   ·cases h
  obtain ⟨t, rfl⟩ := hts
  obtain ⟨eff, w', u, p1, p2, p3⟩ := clear_sound hI (ty := o.type) h1 h
  refine wp_value (v := u) (w' := w') ?_ (hk eff x _ _ p1 p2)
  rw [hrun]
  simp only [builtin, Sem.run_bind]
  rw [p3]; rfl
 ·rename_i j ks off n c nl ks2 rows2 r2
  cases hr with | cons _ v _ vs h1 h2 => ?_
  cases h2 with | cons _ v2 _ vs2 h3 h4 => ?_
  cases h4
  have hts : ∃ t t2, ts = [t, t2] := by
   unfold copyE at h
   split at h
   ·exact ⟨_, _, rfl⟩
   ·cases h
  obtain ⟨t, t2, rfl⟩ := hts
  obtain ⟨eff, w', u, p1, p2, p3⟩ := copy_sound hI (ty := o.type) h1 h3 h
  refine wp_value (v := u) (w' := w') ?_ (hk eff x _ _ p1 p2)
  rw [hrun]
  simp only [builtin, Sem.run_bind]
  rw [p3]; rfl
 ·cases h

theorem sound_call {Φ : Orc} (hΦ : OSound e.P Φ) (hI : Inv e x w m) (hT : RepL x tm a.tmps.toList) (hk : Goes e x m a o next k res)
  (hkp : ∀ eff x' w' v, kp eff = some res → After e x x' w' m v eff → Q (.panic [{ v, recovered := false }]) a w')
  {f : Operand} {ys : Array Operand} {ts : Array TypeId} (ho : o.op = .call { callee := .value f, args := ys, argTypes := ts })
  (h : (match evT e.P tm 0 f, evs e.P tm ts.toList ys.toList with
   |some (.fn f caps), some args => callE Φ m o.dst f (args ++ caps) k kp
   |_, _ => none) = some res) : o.wp e.P a w next Q := by
 split at h
 ·rename_i g caps args hf hargs
  have hr := evs_rep hT hargs
  have hrf := evT_rep hT hf
  generalize hz : a.eval f = z at hrf
  cases hrf with
  |fn _ _ cv hcv =>
  obtain ⟨⟨fn, h1, h2, h3⟩, hcalls⟩ := call_sound hΦ hI (hr.append hcv) h
  unfold Oper.wp
  have hrun : (execOp a.eval o).run e.P w = .ok (.enter g ⟨ys.toList.map a.eval ++ cv⟩) w := by
   have hb : fn.body.isNone = false := by cases hbb : fn.body <;> simp [hbb] at h2 ⊢
   obtain ⟨ys⟩ := ys
   simp only [execOp, ho, resolve, hz, Deferred.ofValue, invoke, callFunc, Sem.run_bind, Sem.run_pure, Result.andThen_ok, run_program, h1]
   rw [if_neg (by simpa using h3), if_neg (by simp [hb])]
   simp only [Sem.run_pure]
   congr 2
   apply Array.ext'
   simp
  rw [hrun]
  refine hcalls.mono ?_
  rintro en w' ⟨eff, x', v, hafter, hen⟩
  rcases hen with ⟨rfl, hk'⟩ | ⟨rfl, hk'⟩
  ·exact hk eff x' w' v hk' hafter
  ·exact hkp eff x' w' v hk' hafter
 ·cases h

theorem op_sound {Φ : Orc} (hΦ : OSound e.P Φ) (hI : Inv e x w m) (hT : RepL x tm a.tmps.toList) (hk : Goes e x m a o next k res)
  (hkp : ∀ eff x' w' v, kp eff = some res → After e x x' w' m v eff → Q (.panic [{ v, recovered := false }]) a w')
  (h : opE e.P Φ tm m o k kp = some res) : o.wp e.P a w next Q := by
 unfold opE at h
 split at h
 ·rename_i y ho; exact sound_move hI hT hk (.inl ho) h
 ·rename_i y ho; exact sound_move hI hT hk (.inr ho) h
 ·rename_i c y z ho; exact sound_pick hI hT hk ho h
 ·rename_i t ho; exact sound_alloc hI hk ho h
 ·rename_i t y ho; exact sound_box hI hT hk ho h
 ·rename_i t ps ho; exact sound_build hI hT hk ho h
 ·rename_i t n ps ho; exact sound_buildSlice hI hT hk ho h
 ·rename_i t y ho; exact sound_load hI hT hk ho h
 ·rename_i t y z ho; exact sound_store hI hT hk ho h
 ·rename_i t ho; exact sound_makeMap hI hk ho h
 ·rename_i t y z ok ho; exact sound_look hI hT hk ho h
 ·rename_i t y z v' ho; exact sound_put hI hT hk ho h
 ·rename_i y ho; exact sound_nilCheck hI hT hk ho h
 ·rename_i op t y z u ho
  split at h
  ·split at h
   ·rename_i j p l q hp hq
    split at h
    ·rename_i hj
     subst hj
     split at h
     ·cases h
     ·rename_i h0
      exact sound_int hI hT hk ho hp hq (by simp [eqGuard, binOp, Op.intDiv, h0]) h
    ·cases h
   ·cases h
  ·split at h
   ·rename_i j p l q hp hq
    split at h
    ·rename_i hj
     subst hj
     split at h
     ·cases h
     ·rename_i h0
      exact sound_int hI hT hk ho hp hq (by simp [eqGuard, binOp, Op.intDiv, h0]) h
    ·cases h
   ·cases h
  ·split at h
   ·rename_i j p l q hp hq
    split at h
    ·cases h
    ·rename_i h0
     exact sound_int hI hT hk ho hp hq (by simp [eqGuard, binOp, Op.shift, h0]) h
   ·cases h
  ·split at h
   ·rename_i j p l q hp hq
    split at h
    ·cases h
    ·rename_i h0
     exact sound_int hI hT hk ho hp hq (by simp [eqGuard, binOp, Op.shift, h0]) h
   ·cases h
  ·split at h
   ·rename_i p q hp hq
    split at h
    ·rename_i hlen
     have h1 := Rep.val (evT_rep hT hp)
     have h2 := Rep.val (evT_rep hT hq)
     have h3 : ¬ ((9223372036854775807 : Int) < (p.size : Int) + (q.size : Int)) := by omega
     exact pure_op hI hk h (rep_val x rfl) (v := .string (p ++ q)) (by simp [execOp, ho, h1, h2, eqGuard, binOp, Op.stringOp, h3])
    ·cases h
   ·rename_i p q hne hp hq
    split at h
    ·rename_i r hr; exact sound_bin hI hT hk ho hp hq hr h
    ·cases h
   ·cases h
  ·split at h
   ·rename_i p q hp hq
    split at h
    ·rename_i r hr; exact sound_bin hI hT hk ho hp hq hr h
    ·cases h
   ·cases h
 ·rename_i op t y ho; exact sound_un hI hT hk h ho
 ·rename_i s d y ho; exact sound_convert hI hT hk ho h
 ·rename_i t y ho; exact sound_makeInterface hI hT hk ho h
 ·rename_i f first caps ho; exact sound_makeFunc hI hT hk ho h
 ·rename_i t y lo hi mx ho; exact sound_slice hI hT hk ho h
 ·rename_i s y f ho; exact sound_fieldAddr hI hT hk ho h
 ·rename_i s y f ho; exact sound_field hI hT hk ho h
 ·rename_i t y z ho; exact sound_indexAddr hI hT hk ho h
 ·rename_i t y z ho; exact sound_index hI hT hk ho h
 ·rename_i y t0 t ho; exact sound_typeAssert hI hT hk ho h
 ·rename_i y i ho; exact sound_extract hI hT hk ho h
 ·rename_i y ho; exact sound_panic hI hT ho hkp h
 ·rename_i c ho
  obtain ⟨callee, ys, ts⟩ := c
  simp only at h
  split at h
  ·rename_i b
   split at h
   ·rename_i args hargs; exact sound_builtin hI hT hk ho hargs h
   ·cases h
  ·rename_i f; exact sound_call hΦ hI hT hk hkp ho h
  ·cases h
 ·cases h
end Go.Den
namespace Go.Den
variable {e : Env} {R : Type} {res : R}

structure StOk (e : Env) (x : X) (w : World) (s : St) (a : Act) : Prop where
 inv : Inv e x w s.m
 tmps : RepL x s.t a.tmps.toList
 defers : a.defers = e.D

def vtag : Value → Nat
 | .bool _ => 0
 | .int _ _ => 1
 | .string _ => 2
 | .slice _ _ _ => 3
 |_ => 4
theorem ofKd_tag {M : Mm} {k : Kd} {d : DV} {v : Value} (h : DV.ofKd k d = true) (hr : RepD M d v) (h4 : k.tag ≠ 4) : vtag v = k.tag := by
 cases k with
 |b => cases d with
  |val u => cases u <;> simp [DV.ofKd] at h; cases hr; rfl
  |sl => simp [DV.ofKd] at h
 |i k => cases d with
  |val u => cases u <;> simp [DV.ofKd] at h; cases hr; rfl
  |sl => simp [DV.ofKd] at h
 |s => cases d with
  |val u => cases u <;> simp [DV.ofKd] at h; cases hr; rfl
  |sl => simp [DV.ofKd] at h
 |sl ks => cases d with
  |val u => simp [DV.ofKd] at h
  |sl n ls rows => cases hr <;> rfl
 |o => exact absurd rfl h4
theorem tagIn_get : ∀ {ks : List Kd} {j : Nat} {k : Kd} {t : Nat}, ks[j]? = some k → (k.tag = t ∨ k.tag = 4) → Kd.tagIn t ks = true
 |[], j, k, t, h, _ => by simp at h
 |k0 :: ks, 0, k, t, h, ht => by
  simp at h; subst h
  simp only [Kd.tagIn, Bool.or_eq_true, beq_eq]
  exact .inl ht
 |k0 :: ks, j + 1, k, t, h, ht => by
  simp only [Kd.tagIn, Bool.or_eq_true]
  exact .inr (tagIn_get (j := j) (by simpa using h) ht)
theorem rows_typed {M : Mm} : ∀ {b o : Nat} {ks : List Kd} {rows : Rows}, RowsAt M b o ks rows → ∀ {q : Nat} {v : Value}, o ≤ q → q < o + rows.length * ks.length → M b q = some v → Kd.tagIn (vtag v) ks = true
 |_, _, _, _, .nil b o ks, q, v, h1, h2, _ => by simp at h2; omega
 |_, _, _, _, .cons b o ks row rows h1 h2 h3, q, v, h4, h5, h6 => by
  have hl := Row.ofKds_length h1
  by_cases hq : q < o + ks.length
  ·obtain ⟨j, rfl⟩ : ∃ j, q = o + j := ⟨q - o, by omega⟩
   have hj : j < row.length := by omega
   obtain ⟨u, hu, hr⟩ := h2.get (List.getElem?_eq_getElem hj)
   rw [h6] at hu
   obtain rfl := Option.some.inj hu
   have hj' : j < ks.length := by omega
   have hk : ks[j]? = some ks[j] := List.getElem?_eq_getElem hj'
   obtain ⟨d, hd, ho⟩ := Row.ofKds_get h1 hk
   rw [List.getElem?_eq_getElem hj] at hd
   obtain rfl := Option.some.inj hd
   by_cases h4 : ks[j].tag = 4
   ·exact tagIn_get hk (.inr h4)
   ·exact tagIn_get hk (.inl (ofKd_tag ho hr h4).symm)
  ·refine rows_typed h3 (by omega) ?_ h6
   simp only [List.length_cons, Nat.add_mul, Nat.one_mul] at h5
   omega

def cut (M : Mm) (T : Nat) : Mm := fun b o => if b = T then none else M b o
theorem cut_ne (M : Mm) {T b : Nat} (o : Nat) (h : b ≠ T) : cut M T b o = M b o := by simp [cut, h]
section
variable {M : Mm} {T : Nat} {ks : List Kd} (hty : ∀ q v, M T q = some v → Kd.tagIn (vtag v) ks = true)
include hty
theorem outs_ne {ls : List Kd} {row : Row} {b o : Nat} (h : Kd.outs ks ls = true) (ho : Row.ofKds ls row = true) (hc : CellsAt M b o row) : b ≠ T := by
 rintro rfl
 cases ls with
 |nil => simp [Kd.outs] at h
 |cons l ls =>
  cases row with
  |nil => simp [Row.ofKds] at ho
  |cons d r =>
   simp only [Kd.outs, Bool.and_eq_true, Bool.not_eq_true'] at h
   simp only [Row.ofKds, Bool.and_eq_true] at ho
   cases hc with
   |cons _ _ _ v _ h1 h2 h3 =>
    have h4 : l.tag ≠ 4 := fun e => by have := h.1; rw [beq_eq.2 e] at this; cases this
    have := hty _ _ h1
    rw [ofKd_tag ho.1 h2 h4] at this
    rw [h.2] at this; cases this
mutual
theorem meltD : ∀ {d : DV} {v : Value}, RepD M d v → (∀ nl ls rows, d = .sl nl ls rows → Kd.outs ks ls = true ∧ Kd.inners ks ls = true) → RepD (cut M T) d v
 |_, _, .val v h, _ => .val v h
 |_, _, .nil ls, _ => .nil ls
 |_, _, .sl ls rows a c h1 h2 h3, h => .sl ls rows a c h1 h2 (by
   cases h3 with
   |nil => exact .nil _ _ _
   |cons _ _ _ row rows g1 g2 g3 =>
    obtain ⟨k1, k2⟩ := h _ _ _ rfl
    have hb := outs_ne hty k1 g1 g2
    exact .cons _ _ _ _ _ g1 (meltC g2 hb g1 k2) (meltR g3 hb k2))
theorem meltR : ∀ {b o : Nat} {ls : List Kd} {rows : Rows}, RowsAt M b o ls rows → b ≠ T → Kd.inners ks ls = true → RowsAt (cut M T) b o ls rows
 |_, _, _, _, .nil b o ls, _, _ => .nil b o ls
 |_, _, _, _, .cons b o ls row rows g1 g2 g3, hb, k2 => .cons b o ls row rows g1 (meltC g2 hb g1 k2) (meltR g3 hb k2)
theorem meltC : ∀ {b o : Nat} {row : Row}, CellsAt M b o row → b ≠ T → ∀ {l : List Kd}, Row.ofKds l row = true → Kd.inners ks l = true → CellsAt (cut M T) b o row
 |_, _, _, .nil b o, _, l, _, _ => .nil b o
 |_, _, _, .cons b o d v r h1 h2 h3, hb, l, ho, hi => by
  cases l with
  |nil => simp [Row.ofKds] at ho
  |cons k l =>
   simp only [Row.ofKds, Bool.and_eq_true] at ho
   simp only [Kd.inners, Bool.and_eq_true] at hi
   refine .cons b o d v r (by rw [cut_ne M o hb]; exact h1) (meltD h2 ?_) (meltC h3 hb ho.2 hi.2)
   rintro nl ls rows rfl
   cases k with
   |sl ls' =>
    have := Kd.sameL_eq (by simpa [DV.ofKd] using ho.1)
    subst this
    simpa [Kd.inner, Bool.and_eq_true] using hi.1
   |b => simp [DV.ofKd] at ho
   |i k => simp [DV.ofKd] at ho
   |s => simp [DV.ofKd] at ho
   |o => simp [DV.ofKd] at ho
end
theorem meltV : ∀ {row : Row} {vs : List Value}, CellsV M row vs → ∀ {l : List Kd}, Row.ofKds l row = true → Kd.inners ks l = true → CellsV (cut M T) row vs
 |_, _, .nil, l, _, _ => .nil
 |_, _, .cons d v r vs h2 h3, l, ho, hi => by
  cases l with
  |nil => simp [Row.ofKds] at ho
  |cons k l =>
   simp only [Row.ofKds, Bool.and_eq_true] at ho
   simp only [Kd.inners, Bool.and_eq_true] at hi
   refine .cons d v r vs (meltD hty h2 ?_) (meltV h3 ho.2 hi.2)
   rintro nl ls rows rfl
   cases k with
   |sl ls' =>
    have := Kd.sameL_eq (by simpa [DV.ofKd] using ho.1)
    subst this
    simpa [Kd.inner, Bool.and_eq_true] using hi.1
   |b => simp [DV.ofKd] at ho
   |i k => simp [DV.ofKd] at ho
   |s => simp [DV.ofKd] at ho
   |o => simp [DV.ofKd] at ho
theorem meltA : ∀ {ls : List Kd} {rows : Rows} {l : List Value}, ArrV M ls rows l → Kd.inners ks ls = true → ArrV (cut M T) ls rows l
 |_, _, _, .nil l, _ => .nil l
 |_, _, _, .cons row vs rows l h1 h2 h3, hi => .cons row vs rows l h1 (meltV hty h2 h1 hi) (meltA h3 hi)
end
theorem RowsAt.arrV {M : Mm} : ∀ {b o : Nat} {ks : List Kd} {rows : Rows}, RowsAt M b o ks rows → ∀ {l : List Value}, (∀ q v, M b (o + q) = some v → l[q]? = some v) → ArrV M ks rows l
 |_, _, _, _, .nil b o ks, l, _ => .nil l
 |_, _, _, _, .cons b o ks row rows h1 h2 h3, l, h => by
  have hl := Row.ofKds_length h1
  obtain ⟨us, hu1, hu2, hu3⟩ := cells_take h2 l h
  rw [← List.take_append_drop row.length l]
  refine .cons row _ rows _ h1 hu3 (RowsAt.arrV h3 fun q v hq => ?_)
  rw [List.getElem?_drop]
  refine h _ _ ?_
  rw [← hq]; congr 1; omega
where cells_take {M : Mm} : ∀ {b o : Nat} {row : Row}, CellsAt M b o row → ∀ (l : List Value), (∀ q v, M b (o + q) = some v → l[q]? = some v) → ∃ us : List Value, us = l.take row.length ∧ us.length = row.length ∧ CellsV M row (l.take row.length)
 |_, _, _, .nil b o, l, _ => ⟨[], by simp, rfl, by simpa using CellsV.nil⟩
 |_, _, _, .cons b o d v r h1 h2 h3, l, h => by
  have h0 := h 0 v (by simpa using h1)
  cases l with
  |nil => simp at h0
  |cons v' l =>
   simp at h0; subst h0
   obtain ⟨us, g1, g2, g3⟩ := cells_take h3 l (fun q u hq => by have := h (q + 1) u (by rw [← hq]; congr 1; omega); simpa using this)
   exact ⟨v' :: us, by simp [g1], by simp [g2], by simpa using CellsV.cons d v' r _ h2 g3⟩
end Go.Den
namespace Go.Den
variable {e : Env} {R : Type} {res : R}

def X.thawed (x : X) (slot j T n : Nat) : X :=
 { M := cut x.M T, loc := fun k => if k = slot then some T else x.loc k, tk := fun k => if k = j then none else x.tk k, cap := fun k => if k = slot then n else x.cap k, M0 := x.M0 }

structure Thaw (x : X) (slot j T n : Nat) (ks : List Kd) (len c : Nat) : Prop where
 ty : ∀ q v, x.M T q = some v → Kd.tagIn (vtag v) ks = true
 M0 : Sub x.M0 (cut x.M T)
 tk : x.tk j = some (.slice (some ⟨T, 0, none⟩) len c, ks)
 room : c * ks.length ≤ n
 len : len ≤ c
 max : c ≤ maxLen
 other : ∀ k a n' c' sz, k ≠ j → x.tk k = some (.slice (some a) n' c', sz) → 0 < c' → a.block ≠ T

variable {x : X} {slot j T n : Nat} {ks : List Kd} {len c : Nat}
mutual
theorem Rep.melt (h : Thaw x slot j T n ks len c) : ∀ {a v}, Rep x a v → Rep (x.thawed slot j T n) (AV.melt slot j ks len a) v
 |_, _, .dv d v hd => by
  unfold AV.melt
  cases d with
  |val u => exact .dv _ v (by cases hd; exact .val _ ‹_›)
  |sl nl ls rows =>
   simp only [DV.melt]
   split
   ·rename_i hc
    simp only [Bool.and_eq_true] at hc
    exact .dv _ v (meltD h.ty hd (by rintro _ _ _ ⟨⟩; exact hc))
   ·exact .junk v
 |_, _, .sl nl ls rows r v hd hr => by
  unfold AV.melt
  have hplain : ∀ r' : Right, RtOk (x.thawed slot j T n) r' (.sl nl ls rows) v ls → Rep (x.thawed slot j T n) (match Kd.outs ks ls && Kd.inners ks ls with | true => .sl nl ls rows r' | false => .junk) v := by
   intro r' hr'
   split
   ·rename_i hc
    simp only [Bool.and_eq_true] at hc
    exact .sl _ _ _ _ v (meltD h.ty hd (by rintro _ _ _ ⟨⟩; exact hc)) hr'
   ·exact .junk v
  cases r with
  |no => exact hplain .no trivial
  |ex => exact hplain .ex hr
  |old =>
   have hr' : RepD x.M0 (.sl nl ls rows) v := hr
   exact .sl _ _ _ _ v (hr'.mono h.M0) hr'
  |tok k =>
   have hr' : x.tk k = some (v, ls) := hr
   simp only [Right.melt]
   split
   ·rename_i hk
    obtain rfl := beq_eq.1 hk
    rw [h.tk] at hr'
    injection hr' with hr'
    injection hr' with hv hl
    subst hv
    split
    ·rename_i hs
     exact .ms slot ks 0 len len T 0 c (by simp [X.thawed]) (Nat.le_refl _) (fun _ => by simp) ⟨h.len, by simp only [X.thawed, if_true]; have := h.room; omega, h.max⟩
    ·exact .junk _
   ·rename_i hk
    have hkj : k ≠ j := fun e => by subst e; simp at hk
    split
    ·rename_i hi
     refine .sl _ _ _ _ v ?_ (by simp only [RtOk, X.thawed, if_neg hkj]; exact hr')
     cases hd with
     |nil => exact .nil _
     |sl _ _ a c' g1 g2 g3 =>
      refine .sl _ _ a c' g1 g2 ?_
      cases g3 with
      |nil => exact .nil _ _ _
      |cons _ _ _ row rows k1 k2 k3 =>
       have hb := h.other k a _ c' _ hkj hr' (by simp at g1; omega)
       exact .cons _ _ _ _ _ k1 (meltC h.ty k2 hb k1 hi) (meltR h.ty k3 hb hi)
    ·exact .junk v
 |_, _, .agg cs vs hl => by unfold AV.melt; exact .agg _ vs (RepL.melt h hl)
 |_, _, .tup cs vs hl => by unfold AV.melt; exact .tup _ vs (RepL.melt h hl)
 |_, _, .pl k off b hk => by
  unfold AV.melt
  split
  ·exact .junk _
  ·rename_i hk'
   have : k ≠ slot := fun e => hk' (beq_eq.2 e)
   exact .pl k off b (by simp only [X.thawed, if_neg this]; exact hk)
 |_, _, .pv ls row off b o h1 h2 h3 => by
  unfold AV.melt
  split
  ·rename_i hc
   cases ho : isOld off with
   |true => exact .pv ls row off b o h1 ((h3 ho).mono h.M0) (fun _ => h3 ho)
   |false =>
   simp only [ho, Bool.false_or, Bool.and_eq_true] at hc
   exact .pv ls row off b o h1 (meltC h.ty h2 (outs_ne h.ty hc.1 h1 h2) h1 hc.2) (fun h' => absurd h' (by simp [ho]))
  ·exact .junk _
 |_, _, .fn f cs vs hl => by unfold AV.melt; exact .fn f _ vs (RepL.melt h hl)
 |_, _, .ifc t a v ha => by unfold AV.melt; exact .ifc t _ v (Rep.melt h ha)
 |_, _, .ms k kd off n' c1 b o c' hk g1 g2 g3 => by
  unfold AV.melt
  split
  ·exact .junk _
  ·rename_i hk'
   have : k ≠ slot := fun e => hk' (beq_eq.2 e)
   exact .ms k kd off n' c1 b o c' (by simp only [X.thawed, if_neg this]; exact hk) g1 g2 (by simp only [X.thawed, if_neg this]; exact g3)
 |_, _, .pa k kd i q b hk => by
  unfold AV.melt
  split
  ·exact .junk _
  ·rename_i hk'
   have : k ≠ slot := fun e => hk' (beq_eq.2 e)
   exact .pa k kd i q b (by simp only [X.thawed, if_neg this]; exact hk)
 |_, _, .junk v => by unfold AV.melt; exact .junk v
theorem RepL.melt (h : Thaw x slot j T n ks len c) : ∀ {l vs}, RepL x l vs → RepL (x.thawed slot j T n) (AV.meltL slot j ks len l) vs
 |_, _, .nil => by unfold AV.meltL; exact .nil
 |_, _, .cons a v l vs ha hl => by unfold AV.meltL; exact .cons _ _ _ _ (Rep.melt h ha) (RepL.melt h hl)
end
theorem meltL_map (slot j : Nat) (ks : List Kd) (n : Nat) : ∀ l, AV.meltL slot j ks n l = l.map (AV.melt slot j ks n)
 |[] => rfl
 |a :: l => by simp [AV.meltL, meltL_map slot j ks n l]
theorem inners_flat (ks : List Kd) : ∀ ls : List Kd, flatKds ls = true → Kd.inners ks ls = true
 |[], _ => rfl
 |k :: ls, h => by
  unfold Kd.inners
  have h2 : flatKds ls = true := by cases k <;> first | exact h | cases h
  rw [inners_flat ks ls h2, Bool.and_true]
  cases k <;> first | rfl | cases h
theorem MpMap.melt (slot j : Nat) (ks : List Kd) (n : Nat) : MpMap (AV.melt slot j ks n) where
 tag ag := by cases ag <;> rfl
 arr ls rows := by
  simp only [AV.melt]
  split
  ·exact ⟨_, rfl⟩
  ·exact ⟨_, rfl⟩
 flat ls rows h := by simp only [AV.melt, inners_flat ks ls h]
 tag' a ag h := by
  cases a with
  |sl nl ls rows r => cases ag <;> (cases r <;> simp only [AV.melt, Right.melt, mpTag] at h <;> first | (split at h <;> first | (split at h <;> cases h) | cases h) | cases h)
  |dv d =>
   cases d with
   |val v => exact h
   |sl => cases ag <;> (simp only [AV.melt, DV.melt] at h; split at h <;> cases h)
  |_ => cases ag <;> (simp only [AV.melt, mpTag] at h <;> first | (split at h <;> cases h) | cases h)
 arr' a ls rows h := by
  cases a with
  |sl nl ls' rows' r => cases r <;> simp only [AV.melt, Right.melt] at h <;> first | (split at h <;> first | (split at h <;> cases h) | cases h) | cases h
  |dv d =>
   cases d with
   |val v => cases h
   |sl => simp only [AV.melt, DV.melt] at h; split at h <;> cases h
  |arr ls' rows' =>
   simp only [AV.melt] at h
   split at h <;> cases h <;> exact ⟨_, rfl⟩
  |junk => cases h
  |_ => simp only [AV.melt] at h <;> first | (split at h <;> cases h) | cases h
theorem isMp_melt (slot j : Nat) (ks : List Kd) (n : Nat) (cs : List AV) : isMp (AV.meltL slot j ks n cs) = isMp cs := by rw [meltL_map]; exact (MpMap.melt slot j ks n).isMp cs
theorem Cont.melt (h : Thaw x slot j T n ks len c) {cs : List AV} {l : List Value} (hc : Cont x cs l) : Cont (x.thawed slot j T n) (AV.meltL slot j ks len cs) l := by
 rcases hc with hc | ⟨kd, rows, rfl, hc⟩ | ⟨ag, kd, rows, rfl, hc⟩
 ·exact .inl (hc.melt h)
 ·simp only [AV.meltL, AV.melt]
  split
  ·rename_i hi; exact Cont.inr_arr (meltA h.ty hc hi)
  ·exact Cont.inr_arr (.nil _)
 ·rw [meltL_map]; exact Cont.mpMap (x := x) (MpMap.melt slot j ks len) hc
theorem VirMap.melt (slot j : Nat) (ks : List Kd) (n : Nat) : VirMap (AV.melt slot j ks n) where
 a a h := by
  cases a with
  |sl nl ls rows r => cases r <;> simp only [AV.melt, Right.melt] at h <;> first | (split at h <;> first | (split at h <;> cases h) | cases h) | cases h
  |dv d =>
   cases d with
   |val v => exact h
   |sl => simp only [AV.melt, DV.melt] at h; split at h <;> cases h
  |_ => simp only [AV.melt] at h <;> first | (split at h <;> cases h) | cases h
 b a r h := by
  cases a with
  |sl nl ls rows r' => cases r' <;> simp only [AV.melt, Right.melt] at h <;> first | (split at h <;> first | (split at h <;> first | (cases h; exact ⟨_, rfl⟩) | cases h) | (cases h; exact ⟨_, rfl⟩) | cases h) | (cases h; exact ⟨_, rfl⟩) | cases h
  |dv d =>
   cases d with
   |val v => cases h
   |sl => simp only [AV.melt, DV.melt] at h; split at h <;> cases h
  |_ => simp only [AV.melt] at h <;> first | (split at h <;> cases h) | cases h
 c a v h := by
  cases a with
  |sl nl ls rows r => cases r <;> simp only [AV.melt, Right.melt] at h <;> first | (split at h <;> first | (split at h <;> cases h) | cases h) | cases h
  |dv d =>
   cases d with
   |val v => exact h
   |sl => simp only [AV.melt, DV.melt] at h; split at h <;> cases h
  |_ => simp only [AV.melt] at h <;> first | (split at h <;> cases h) | cases h
theorem virgin_melt {slot j : Nat} {ks : List Kd} {n : Nat} {cs : List AV} (h : virgin (AV.meltL slot j ks n cs) = true) : virgin cs = true := (VirMap.melt slot j ks n).map (by rwa [meltL_map] at h)
theorem lookup_meltM (slot j : Nat) (ks : List Kd) (n : Nat) (m : Mem) (k : Nat) : lookup (meltM slot j ks n m) k = (lookup m k).map (AV.meltL slot j ks n) := by
 induction m with
 |nil => rfl
 |cons e m ih =>
  obtain ⟨i, ds⟩ := e
  simp only [meltM, lookup, beq_eq, ih]
  by_cases h : i = k <;> simp [h]
theorem set_same {α : Type} {l : List α} {i : Nat} {v : α} (h : l[i]? = some v) : l.set i v = l := by
 apply List.ext_getElem?
 intro k
 by_cases hk : i = k
 ·subst hk
  rw [List.getElem?_set_self (List.getElem?_eq_some_iff.1 h).1, h]
 ·rw [List.getElem?_set_ne hk]

theorem thaw_sound (heL : e.L = []) {t slot : Nat} {s : St} {x : X} {w : World} {a : Act} {k : St → Option R} (hs : StOk e x w s a) (h : thaw t slot s k = some res) :
  ∃ x' s', StOk e x' w s' a ∧ k s' = some res ∧ ∀ j, j ≠ slot → x'.loc j = x.loc j := by
 unfold thaw at h
 split at h
 ·rename_i nl ks rows j ht
  obtain ⟨v, hv, hr⟩ := hs.tmps.get ht
  have hr0 := hr
  cases hr with | sl _ _ _ _ _ hd hrt => ?_
  have hrt : x.tk j = some (v, ks) := hrt
  split at h
  ·rename_i hc
   refine ⟨x, ⟨s.t.set t (.sl nl ks [] (.tok j)), s.m⟩, ⟨hs.inv, ?_, hs.defers⟩, h, fun _ _ => rfl⟩
   have hrows : rows = [] := by
    rcases hd.rows with ⟨_, g, _⟩ | ⟨_, _, g, _⟩
    ·exact g
    ·subst g
     simpa using hc
   subst hrows
   have := hs.tmps.set t hr0
   rw [set_same hv] at this
   exact this
  ·rename_i hc
   simp only [Bool.or_eq_false_iff] at hc
   obtain ⟨hc1, hc2⟩ := hc
   split at h
   ·rename_i hc3
    simp only [Bool.and_eq_true, Nat.blt_eq] at hc3
    obtain ⟨hks, hslot⟩ := hc3
    rcases hd.rows with ⟨g, _, _⟩ | ⟨ad, c, g, rfl, gc, gsp, gr⟩
    ·rw [g] at hc1; cases hc1
    have hne : rows ≠ [] := fun e => by subst e; simp at hc2
    have hpos : 0 < rows.length := List.length_pos_iff.2 hne
    obtain ⟨cur, ty, p1, p2, p3, p4, p5, p6, p7⟩ := hs.inv.tok j _ _ hrt ad rows.length c rfl (by omega)
    obtain ⟨T, o, sp⟩ := ad
    simp only at p1 p2 p4 p7 gr
    subst p1; subst p2
    have p3 : e.w0.heap.size ≤ T := by
     rcases p3 with p3 | p3
     ·exact p3
     ·rw [heL] at p3; cases p3
    have hI := hs.inv
    have hty : ∀ q u, x.M T q = some u → Kd.tagIn (vtag u) ks = true := by
     intro q u hq
     refine rows_typed gr (Nat.zero_le _) ?_ hq
     by_cases hlt : q < 0 + rows.length * ks.length
     ·exact hlt
     ·rw [p7 q (by omega)] at hq; cases hq
    have hlow : ∀ b o u, e.x0.M b o = some u → b ≠ T := fun b o u hb => by have := hI.low b o u hb; omega
    have hM0 : Sub x.M0 (cut x.M T) := by
     intro b o u hb
     rw [hI.more.M0] at hb
     rw [cut_ne _ _ (hlow b o u hb)]
     exact hI.mono b o u hb
    have hother : ∀ k a n' c' sz, k ≠ j → x.tk k = some (.slice (some a) n' c', sz) → 0 < c' → a.block ≠ T :=
     fun k a n' c' sz hk h1 h2 h3 => hk (hI.toktok k j a n' c' sz _ _ _ _ h1 hrt h2 (by omega) h3)
    have hT : Thaw x slot j T cur.size ks rows.length c := ⟨hty, hM0, hrt, p6, gc, p5.1, hother⟩
    have hsub : Sub (cut x.M T) x.M := by
     intro b o u hb
     simp only [cut] at hb
     split at hb
     ·cases hb
     ·exact hb
    have hnone : ∀ b o, x.M b o = none → cut x.M T b o = none := by
     intro b o hb
     simp only [cut]
     split
     ·rfl
     ·exact hb
    have hlk : ∀ k cs, lookup (write (meltM slot j ks rows.length (drop s.m slot)) slot [.arr ks rows]) k = some cs →
      (k = slot ∧ cs = [.arr ks rows]) ∨ (k ≠ slot ∧ ∃ c0, lookup s.m k = some c0 ∧ cs = AV.meltL slot j ks rows.length c0) := by
     intro k cs hk
     rw [lookup_write] at hk
     by_cases hks : k = slot
     ·rw [if_pos hks] at hk; exact .inl ⟨hks, (Option.some.inj hk).symm⟩
     ·rw [if_neg hks, lookup_meltM, lookup_drop, if_neg hks] at hk
      obtain ⟨c0, h0, h1⟩ := Option.map_eq_some_iff.1 hk
      exact .inr ⟨hks, c0, h0, h1.symm⟩
    have hlocT : ∀ k c0, lookup s.m k = some c0 → x.loc k ≠ some T := fun k c0 h0 => hI.tokslot j _ _ _ _ k c0 hrt (by omega) h0
    refine ⟨x.thawed slot j T cur.size, _, ⟨?_, hs.tmps.melt hT, hs.defers⟩, h, fun j hj => by simp only [X.thawed, if_neg hj]⟩
    refine ⟨fun b o u hb => hI.sub b o u (hsub b o u hb), ?_, ?_, ?_, ?_, ?_, hI.os, hI.tape, hI.output, hI.size, hI.old, ?_, fun b o u hb => hI.new b o u (hsub b o u hb), ?_, hI.low, ⟨?_, ?_, ?_, ?_, ?_⟩, hI.glob⟩
    ·intro k cs hk
     rcases hlk k cs hk with ⟨rfl, rfl⟩ | ⟨hks, c0, h0, rfl⟩
     ·refine ⟨T, ty, cur, by simp [X.thawed], .inl p3, p4, Cont.inr_arr (meltA hty (gr.arrV fun q u hq => ?_) hks), fun o => by simp [X.thawed, cut]⟩
      have := hI.sub T (0 + q) u hq
      simp only [World.cell?, p4, Nat.zero_add] at this
      rw [Array.getElem?_toList]; exact this
     ·obtain ⟨b, ty', arr, h1, h2, h3, h4, h5⟩ := hI.slot k c0 h0
      exact ⟨b, ty', arr, by simp only [X.thawed, if_neg hks]; exact h1, h2, by rw [objOf_congr (isMp_melt _ _ _ _ c0)]; exact h3, h4.melt hT, fun o => hnone b o (h5 o)⟩
    ·intro k k' cs cs' b hk hk' hb hb'
     simp only [X.thawed] at hb hb'
     rcases hlk k cs hk with ⟨rfl, rfl⟩ | ⟨hks, c0, h0, rfl⟩
     ·rcases hlk k' cs' hk' with ⟨h1, _⟩ | ⟨hks', c1, h1, rfl⟩
      ·exact h1.symm
      ·rw [if_pos rfl] at hb; rw [if_neg hks'] at hb'
       obtain rfl := Option.some.inj hb
       exact absurd hb' (hlocT k' c1 h1)
     ·rcases hlk k' cs' hk' with ⟨rfl, rfl⟩ | ⟨hks', c1, h1, rfl⟩
      ·rw [if_pos rfl] at hb'; rw [if_neg hks] at hb
       obtain rfl := Option.some.inj hb'
       exact absurd hb (hlocT k c0 h0)
      ·rw [if_neg hks] at hb; rw [if_neg hks'] at hb'
       exact hI.inj k k' c0 c1 b h0 h1 hb hb'
    ·intro k u sz hk a' n' c' hu hpos'
     simp only [X.thawed] at hk
     split at hk
     ·cases hk
     ·obtain ⟨cur', ty', q1, q2, q3, q4, q5, q6, q7⟩ := hI.tok k u sz hk a' n' c' hu hpos'
      exact ⟨cur', ty', q1, q2, q3, q4, q5, q6, fun i hi => hnone _ _ (q7 i hi)⟩
    ·intro k a' n' c' sz i cs hk hpos' hi hl
     simp only [X.thawed] at hk hl
     split at hk
     ·cases hk
     ·rename_i hkj
      rcases hlk i cs hi with ⟨rfl, rfl⟩ | ⟨hks, c0, h0, rfl⟩
      ·rw [if_pos rfl] at hl
       exact hother k a' n' c' sz hkj hk hpos' (Option.some.inj hl).symm
      ·rw [if_neg hks] at hl
       exact hI.tokslot k a' n' c' sz i c0 hk hpos' h0 hl
    ·intro k k' a' n' c' sz a2 n2 c2 sz2 hk hk' h1 h2 hab
     simp only [X.thawed] at hk hk'
     split at hk
     ·cases hk
     ·split at hk'
      ·cases hk'
      ·exact hI.toktok k k' a' n' c' sz a2 n2 c2 sz2 hk hk' h1 h2 hab
    ·intro b o u hb
     show cut x.M T b o = some u
     rw [cut_ne _ _ (hlow b o u hb)]
     exact hI.mono b o u hb
    ·intro k hk
     simp only [X.thawed]
     rw [if_neg (by omega)]; exact hI.ext k hk
    ·intro k b cs hk hmp hb
     simp only [X.thawed] at hb ⊢
     rcases hlk k cs hk with ⟨rfl, rfl⟩ | ⟨hks, c0, h0, rfl⟩
     ·rw [if_pos rfl] at hb ⊢
      obtain rfl := Option.some.inj hb
      exact ⟨cur, ty, p4, Nat.le_refl _⟩
     ·rw [if_neg hks] at hb ⊢
      exact hI.more.room k b c0 h0 (by rwa [isMp_melt] at hmp) hb
    ·intro k hk
     simp only [X.thawed]
     rw [if_neg (by omega)]; exact hI.more.ext k hk
    ·exact hI.more.M0
    ·intro k b cs arr ty' hk hv hb hh
     simp only [X.thawed] at hb
     rcases hlk k cs hk with ⟨rfl, rfl⟩ | ⟨hks, c0, h0, rfl⟩
     ·cases hv
     ·rw [if_neg hks] at hb
      exact hI.more.vir k b c0 arr ty' h0 (virgin_melt hv) hb hh
    ·exact hI.more.drawn
   ·cases h
 ·exact ⟨x, s, hs, h, fun _ _ => rfl⟩
 ·cases h

theorem ArrV.rowsAt {M M' : Mm} (hM : Sub M M') {ks : List Kd} : ∀ {rows : Rows} {l : List Value}, ArrV M ks rows l → ∀ {b o : Nat}, (∀ q v, q < rows.length * ks.length → l[q]? = some v → M' b (o + q) = some v) → RowsAt M' b o ks rows
 |_, _, .nil l, b, o, _ => .nil b o ks
 |_, _, .cons row vs rows l h1 h2 h3, b, o, h => by
  have hl := Row.ofKds_length h1
  have hv := h2.length
  refine .cons b o ks row rows h1 (cellsAt hM h2 fun q v hq => ?_) (ArrV.rowsAt hM h3 fun q v hq hlq => ?_)
  ·have hlt := (List.getElem?_eq_some_iff.1 hq).1
   refine h q v (by simp only [List.length_cons, Nat.add_mul, Nat.one_mul]; omega) ?_
   rw [List.getElem?_append_left hlt]; exact hq
  ·have := h (ks.length + q) v (by simp only [List.length_cons, Nat.add_mul, Nat.one_mul]; omega) (by rw [List.getElem?_append_right (by omega), ← hlq]; congr 1; omega)
   rw [← this]; congr 1; omega
where cellsAt {M M' : Mm} (hM : Sub M M') : ∀ {row : Row} {vs : List Value}, CellsV M row vs → ∀ {b o : Nat}, (∀ q v, vs[q]? = some v → M' b (o + q) = some v) → CellsAt M' b o row
 |_, _, .nil, b, o, _ => .nil b o
 |_, _, .cons d v r vs h1 h2, b, o, h => .cons b o d v r (by simpa using h 0 v (by simp)) (h1.mono hM) (cellsAt hM h2 fun q u hq => by have := h (q + 1) u (by simpa using hq); rw [← this]; congr 1; omega)
theorem ArrV.drop {M : Mm} {ks : List Kd} : ∀ {rows : Rows} {l : List Value}, ArrV M ks rows l → ∀ n, n ≤ rows.length → ArrV M ks (rows.drop n) (l.drop (n * ks.length))
 |_, _, .nil l, n, _ => by simpa using ArrV.nil _
 |_, _, .cons row vs rows l h1 h2 h3, 0, _ => by simpa using ArrV.cons row vs rows l h1 h2 h3
 |_, _, .cons row vs rows l h1 h2 h3, n + 1, hn => by
  have := ArrV.drop h3 n (by simpa using hn)
  have hl := Row.ofKds_length h1
  have hv := h2.length
  rw [List.drop_succ_cons, Nat.add_mul, Nat.one_mul, show n * ks.length + ks.length = vs.length + n * ks.length by omega, ← List.drop_drop, List.drop_left]
  exact this
theorem ArrV.take {M : Mm} {ks : List Kd} : ∀ {rows : Rows} {l : List Value}, ArrV M ks rows l → ∀ n, ArrV M ks (rows.take n) l
 |_, _, .nil l, n => by simpa using ArrV.nil _
 |_, _, .cons row vs rows l h1 h2 h3, 0 => by simpa using ArrV.nil _
 |_, _, .cons row vs rows l h1 h2 h3, n + 1 => by simpa using ArrV.cons row vs _ l h1 h2 (ArrV.take h3 n)

theorem lookup_chillM (slot t : Nat) (ks : List Kd) (rows : Rows) (lim : Nat) (m : Mem) (k : Nat) : lookup (chillM slot t ks rows lim m) k = (lookup m k).map (AV.chillL slot t ks rows lim) := by
 induction m with
 |nil => rfl
 |cons z m ih =>
  obtain ⟨i, ds⟩ := z
  simp only [chillM, lookup, beq_eq, ih]
  by_cases h : i = k <;> simp [h]
mutual
theorem Rep.chill {x x' : X} {slot t lim : Nat} {ks : List Kd} {rows : Rows} (h : Ext x x' [slot] [40000 + t])
  (hms : ∀ off n c v, Rep x (.ms slot ks off n c) v → off + n ≤ lim → Rep x' (.sl false ks ((rows.drop off).take n) .no) v) : ∀ {a v}, Rep x a v → Rep x' (AV.chill slot t ks rows lim a) v
 |_, _, .dv d v hd => by unfold AV.chill; exact .dv d v (hd.mono h.M)
 |_, _, .sl n kd rs r v hd hr => by unfold AV.chill; exact .sl n kd rs _ v (hd.mono h.M) (hr.scrub h)
 |_, _, .agg cs vs hl => by unfold AV.chill; exact .agg _ vs (RepL.chill h hms hl)
 |_, _, .tup cs vs hl => by unfold AV.chill; exact .tup _ vs (RepL.chill h hms hl)
 |_, _, .pl k off b hk => by
  unfold AV.chill
  by_cases hm : mem k [slot] = true
  ·rw [if_pos hm]; exact .junk _
  ·rw [if_neg hm]; exact .pl k off b (h.loc k b (by simpa using hm) hk)
 |_, _, .pv kd row off b o h1 h2 h3 => by unfold AV.chill; exact .pv kd row off b o h1 (h2.mono h.M) (fun ho => by rw [h.M0]; exact h3 ho)
 |_, _, .fn f cs vs hl => by unfold AV.chill; exact .fn f _ vs (RepL.chill h hms hl)
 |_, _, .ifc u a v ha => by unfold AV.chill; exact .ifc u _ v (Rep.chill h hms ha)
 |_, _, .ms k kd off n c b o c' hk g1 g2 g3 => by
  unfold AV.chill
  by_cases hm : mem k [slot] = true
  ·rw [if_pos hm]
   split
   ·rename_i hc
    simp only [Bool.and_eq_true, Nat.ble_eq] at hc
    obtain rfl := Kd.sameL_eq hc.1
    have hks : k = slot := by simpa [mem] using (by simpa [mem] using hm : slot = k).symm
    subst hks
    exact hms off n c _ (.ms k kd off n c b o c' hk g1 g2 g3) hc.2
   ·exact .junk _
  ·rw [if_neg hm]; exact .ms k kd off n c b o c' (h.loc k b (by simpa using hm) hk) g1 g2 (by rw [h.cap k (by simpa using hm)]; exact g3)
 |_, _, .pa k kd i j b hk => by
  unfold AV.chill
  by_cases hm : mem k [slot] = true
  ·rw [if_pos hm]; exact .junk _
  ·rw [if_neg hm]; exact .pa k kd i j b (h.loc k b (by simpa using hm) hk)
 |_, _, .junk v => by unfold AV.chill; exact .junk v
theorem RepL.chill {x x' : X} {slot t lim : Nat} {ks : List Kd} {rows : Rows} (h : Ext x x' [slot] [40000 + t])
  (hms : ∀ off n c v, Rep x (.ms slot ks off n c) v → off + n ≤ lim → Rep x' (.sl false ks ((rows.drop off).take n) .no) v) : ∀ {l vs}, RepL x l vs → RepL x' (AV.chillL slot t ks rows lim l) vs
 |_, _, .nil => by unfold AV.chillL; exact .nil
 |_, _, .cons a v l vs ha hl => by unfold AV.chillL; exact .cons _ v _ vs (Rep.chill h hms ha) (RepL.chill h hms hl)
end
theorem chillK_pick {R : Type} {slot t : Nat} {ks : List Kd} {rows : Rows} {lim : Nat} {a : AV} {K : AV → Option R} {r : R} (h : AV.chillK slot t ks rows lim a K = some r) : K (AV.chill slot t ks rows lim a) = some r ∧ ∀ (R' : Type) (K' : AV → Option R'), AV.chillK slot t ks rows lim a K' = K' (AV.chill slot t ks rows lim a) := by
 cases a with
 |ms k kd off n c =>
  simp only [AV.chillK, AV.chill] at h ⊢
  cases h1 : mem k [slot] with
  |false => rw [h1] at h; exact ⟨by simpa using h, fun R' K' => by simp⟩
  |true =>
   rw [h1] at h
   cases h2 : Kd.sameL kd ks && Nat.ble (off + n) lim with
   |true => rw [h2] at h; exact ⟨h, fun R' K' => rfl⟩
   |false => rw [h2] at h; cases h
 |_ => exact ⟨h, fun _ _ => rfl⟩
theorem chillLK_pick {slot t : Nat} {ks : List Kd} {rows : Rows} {lim : Nat} : ∀ {R : Type} (l : List AV) {K : List AV → Option R} {r : R}, chillLK slot t ks rows lim l K = some r → K (AV.chillL slot t ks rows lim l) = some r ∧ ∀ (R' : Type) (K' : List AV → Option R'), chillLK slot t ks rows lim l K' = K' (AV.chillL slot t ks rows lim l)
 |_, [], K, r, h => ⟨h, fun _ _ => rfl⟩
 |_, a :: l, K, r, h => by
  simp only [chillLK, AV.chillL] at h ⊢
  obtain ⟨h1, h2⟩ := chillK_pick h
  obtain ⟨h3, h4⟩ := chillLK_pick l h1
  exact ⟨h3, fun R' K' => by rw [h2]; exact h4 R' _⟩
theorem chillMK_pick {slot t : Nat} {ks : List Kd} {rows : Rows} {lim : Nat} : ∀ {R : Type} (m : Mem) {K : Mem → Option R} {r : R}, chillMK slot t ks rows lim m K = some r → K (chillM slot t ks rows lim m) = some r ∧ ∀ (R' : Type) (K' : Mem → Option R'), chillMK slot t ks rows lim m K' = K' (chillM slot t ks rows lim m)
 |_, [], K, r, h => ⟨h, fun _ _ => rfl⟩
 |_, (k, cs) :: m, K, r, h => by
  simp only [chillMK, chillM] at h ⊢
  obtain ⟨h1, h2⟩ := chillLK_pick cs h
  obtain ⟨h3, h4⟩ := chillMK_pick m h1
  exact ⟨h3, fun R' K' => by rw [h2]; exact h4 R' _⟩
theorem chillL_map (slot t : Nat) (ks : List Kd) (rows : Rows) (lim : Nat) : ∀ l, AV.chillL slot t ks rows lim l = l.map (AV.chill slot t ks rows lim)
 |[] => rfl
 |a :: l => by simp [AV.chillL, chillL_map slot t ks rows lim l]
theorem MpMap.chill (slot t : Nat) (ks : List Kd) (rows : Rows) (lim : Nat) : MpMap (AV.chill slot t ks rows lim) where
 tag ag := by cases ag <;> rfl
 arr ls rows := ⟨_, rfl⟩
 flat ls rows h := rfl
 tag' a ag h := by
  cases a <;> cases ag <;> simp only [AV.chill, mpTag] at h <;> first | exact h | (split at h <;> first | (split at h <;> cases h) | cases h) | cases h
 arr' a ls rs h := by
  cases a with
  |arr kd rs => simp only [AV.chill] at h; exact ⟨_, h⟩
  |junk => cases h
  |_ => simp only [AV.chill] at h <;> first | (split at h <;> first | (split at h <;> cases h) | cases h) | cases h
theorem isMp_chill (slot t : Nat) (ks : List Kd) (rows : Rows) (lim : Nat) (cs : List AV) : isMp (AV.chillL slot t ks rows lim cs) = isMp cs := by rw [chillL_map]; exact (MpMap.chill slot t ks rows lim).isMp cs
theorem Cont.chill {x x' : X} {slot t lim : Nat} {ks : List Kd} {rows : Rows} (h : Ext x x' [slot] [40000 + t])
  (hms : ∀ off n c v, Rep x (.ms slot ks off n c) v → off + n ≤ lim → Rep x' (.sl false ks ((rows.drop off).take n) .no) v) {cs : List AV} {l : List Value} (hc : Cont x cs l) : Cont x' (AV.chillL slot t ks rows lim cs) l := by
 rcases hc with hc | ⟨kd, rs, rfl, hc⟩ | ⟨ag, kd, rs, rfl, hc⟩
 ·exact .inl (hc.chill h hms)
 ·exact .inr (.inl ⟨kd, rs, by simp [AV.chillL, AV.chill], hc.mono h.M⟩)
 ·rw [chillL_map]; exact Cont.mpMap (x := x) (MpMap.chill slot t ks rows lim) hc
theorem VirMap.chill (slot t : Nat) (ks : List Kd) (rows : Rows) (lim : Nat) : VirMap (AV.chill slot t ks rows lim) where
 a a h := by cases a <;> simp only [AV.chill] at h <;> first | exact h | (split at h <;> first | (split at h <;> cases h) | cases h) | cases h
 b a r h := by cases a <;> simp only [AV.chill] at h <;> first | (cases h; exact ⟨_, rfl⟩) | (split at h <;> first | (split at h <;> cases h) | cases h) | cases h
 c a v h := by cases a <;> simp only [AV.chill] at h <;> first | exact h | (split at h <;> first | (split at h <;> cases h) | cases h) | cases h
theorem virgin_chill {slot t : Nat} {ks : List Kd} {rows : Rows} {lim : Nat} {cs : List AV} (h : virgin (AV.chillL slot t ks rows lim cs) = true) : virgin cs = true := (VirMap.chill slot t ks rows lim).map (by rwa [chillL_map] at h)
theorem freeze_sound {t : Nat} {s : St} {x : X} {w : World} {a : Act} {k : St → Option R} (hs : StOk e x w s a) (h : freeze t s k = some res) :
  ∃ x' s', StOk e x' w s' a ∧ k s' = some res ∧ x'.loc = x.loc := by
 unfold freeze at h
 split at h
 ·rename_i slot ks off n c ht
  obtain ⟨v, hv, hr⟩ := hs.tmps.get ht
  cases hr with | ms _ _ _ _ _ b o c' hb g1 g2 g3 => ?_
  split at h
  ·rename_i ks2 rows hlk
   split at h
   ·rename_i hc
    simp only [Bool.and_eq_true, Nat.blt_eq] at hc
    obtain ⟨hks, hslot⟩ := hc
    obtain rfl := Kd.sameL_eq hks
    split at h
    ·rename_i hlen
     obtain ⟨h, _⟩ := chillMK_pick _ h
     have hI := hs.inv
     have hlk := lookupA_eq hlk
     obtain ⟨b', ty, arr, p1, p2, p3, p4, p5⟩ := hI.slot slot _ hlk
     rw [hb] at p1
     obtain rfl := Option.some.inj p1
     have hbase : e.w0.heap.size ≤ b := by rcases p2 with p2 | p2; exact p2; omega
     rw [objOf_cells (isMp_arr _ _)] at p3
     obtain ⟨arr', ty', q1, q2⟩ := hI.more.room slot b _ hlk rfl hb
     rw [p3] at q1
     cases q1
     obtain ⟨g3, g4, g5⟩ := g3
     have harr := p4.arr
     let M' : Mm := fun b' q => if b' = b ∧ q < (off + n) * ks.length then arr[q]? else x.M b' q
     have hsub : Sub x.M M' := by
      intro b' q u hu
      simp only [M']
      rw [if_neg]
      ·exact hu
      ·rintro ⟨rfl, _⟩; rw [p5] at hu; cases hu
     have hmul : (off + n) * ks.length = off * ks.length + n * ks.length := Nat.add_mul _ _ _
     have hd : RepD M' (.sl false ks ((rows.drop off).take n)) (.slice (some ⟨b, o, none⟩) n c') := by
      have hln : ((rows.drop off).take n).length = n := by rw [List.length_take, List.length_drop]; omega
      conv => rhs; rw [← hln]
      refine .sl ks _ ⟨b, o, none⟩ c' (by omega) (fun _ => rfl) ?_
      by_cases hn : n = 0
      ·subst hn; simpa using RowsAt.nil b o ks
      ·refine ((harr.drop off (by omega)).take n).rowsAt hsub fun q u hq hl => ?_
       rw [hln] at hq
       rw [List.getElem?_drop, Array.getElem?_toList] at hl
       have ho := g2 (by omega)
       simp only [M']
       rw [if_pos (by simp only [true_and]; omega), ho]; exact hl
     have hdn : ∀ off' n' c2 o2, off' + n' ≤ off + n → (0 < c2 → o2 = off' * ks.length) → n' ≤ c2 → RepD M' (.sl false ks ((rows.drop off').take n')) (.slice (some ⟨b, o2, none⟩) n' c2) := by
      intro off' n' c2 o2 hle ho2 hnc
      have hln : ((rows.drop off').take n').length = n' := by rw [List.length_take, List.length_drop]; omega
      conv => rhs; rw [← hln]
      refine .sl ks _ ⟨b, o2, none⟩ c2 (by omega) (fun _ => rfl) ?_
      by_cases hn : n' = 0
      ·subst hn; simpa using RowsAt.nil b o2 ks
      ·refine ((harr.drop off' (by omega)).take n').rowsAt hsub fun q u hq hl => ?_
       rw [hln] at hq
       rw [List.getElem?_drop, Array.getElem?_toList] at hl
       have ho := ho2 (by omega)
       simp only [M']
       have h1 : (off' + n') * ks.length ≤ (off + n) * ks.length := Nat.mul_le_mul_right _ hle
       rw [Nat.add_mul] at h1
       rw [if_pos (by simp only [true_and]; omega), ho]; exact hl
     let tk' : Nat → Option (Value × List Kd) := fun j => if j = 40000 + t then (match Nat.beq off 0 && !u8k ks with | true => some (.slice (some ⟨b, o, none⟩) n c', ks) | false => none) else x.tk j
     let x' : X := { x with M := M', tk := tk' }
     have hext : Ext x x' [slot] [40000 + t] := by
      refine ⟨hsub, fun _ _ _ h => h, fun j z hj hz => ?_, fun _ _ => rfl, rfl⟩
      have : j ≠ 40000 + t := fun e => by subst e; simp [mem] at hj
      simp only [x', tk', if_neg this]; exact hz
     have hms : ∀ off' n' c2 v', Rep x (.ms slot ks off' n' c2) v' → off' + n' ≤ off + n → Rep x' (.sl false ks ((rows.drop off').take n') .no) v' := by
      intro off' n' c2 v' hv' hle
      cases hv' with
      |ms _ _ _ _ _ b2 o2 c3 hb2 e1 e2 e3 =>
      rw [hb] at hb2
      cases hb2
      exact .sl _ _ _ _ _ (hdn off' n' c3 o2 hle e2 (by omega)) trivial
     have hntk : ∀ j u sz, tk' j = some (u, sz) → (j = 40000 + t ∧ (off = 0 ∧ u8k ks = false) ∧ u = .slice (some ⟨b, o, none⟩) n c' ∧ sz = ks) ∨ (j ≠ 40000 + t ∧ x.tk j = some (u, sz)) := by
      intro j u sz hj
      simp only [tk'] at hj
      split at hj
      ·rename_i hjt
       split at hj
       ·rename_i h0
        cases hj
        simp only [Bool.and_eq_true, Bool.not_eq_true'] at h0
        exact .inl ⟨hjt, ⟨beq_eq.1 h0.1, h0.2⟩, rfl, rfl⟩
       ·cases hj
      ·rename_i hjt; exact .inr ⟨hjt, hj⟩
     have hm : ∀ k cs, lookup (chillM slot t ks rows (off + n) (drop s.m slot)) k = some cs → k ≠ slot ∧ ∃ c0, lookup s.m k = some c0 ∧ cs = AV.chillL slot t ks rows (off + n) c0 := by
      intro k cs hk
      rw [lookup_chillM, lookup_drop] at hk
      split at hk
      ·simp at hk
      ·rename_i hks
       obtain ⟨c0, h0, h1⟩ := Option.map_eq_some_iff.1 hk
       exact ⟨hks, c0, h0, h1.symm⟩
     have hne : ∀ k c0 b', k ≠ slot → lookup s.m k = some c0 → x.loc k = some b' → b' ≠ b := fun k c0 b' h1 h2 h3 e => h1 (hI.inj k slot c0 _ b h2 hlk (by rw [h3, e]) hb)
     have htok : ∀ j a' n' c2 sz, x.tk j = some (.slice (some a') n' c2, sz) → 0 < c2 → a'.block ≠ b := fun j a' n' c2 sz h1 h2 e => hI.tokslot j a' n' c2 sz slot _ h1 h2 hlk (by rw [hb, e])
     have hM' : ∀ b' q, b' ≠ b → M' b' q = x.M b' q := fun b' q hbb => by simp only [M']; rw [if_neg fun h => hbb h.1]
     refine ⟨x', _, ⟨?_, ?_, hs.defers⟩, h, rfl⟩
     ·refine ⟨?_, ?_, ?_, ?_, ?_, ?_, hI.os, hI.tape, hI.output, hI.size, hI.old, hI.mono.trans hsub, ?_, hI.ext, hI.low, ?_, hI.glob⟩
      ·intro b' q u hu
       simp only [x', M'] at hu
       split at hu
       ·rename_i hbq
        obtain ⟨rfl, _⟩ := hbq
        simp only [World.cell?, p3]; exact hu
       ·exact hI.sub b' q u hu
      ·intro k cs hk
       obtain ⟨h1, c0, h0, rfl⟩ := hm k cs hk
       obtain ⟨b2, ty2, arr2, r1, r2, r3, r4, r5⟩ := hI.slot k c0 h0
       exact ⟨b2, ty2, arr2, r1, r2, by rw [objOf_congr (isMp_chill _ _ _ _ _ c0)]; exact r3, r4.chill hext hms, fun q => by show M' b2 q = none; rw [hM' b2 q (hne k c0 b2 h1 h0 r1)]; exact r5 q⟩
      ·intro k k' cs cs' b2 hk hk' hb2 hb2'
       obtain ⟨_, c0, h0, _⟩ := hm k cs hk
       obtain ⟨_, c1, h1, _⟩ := hm k' cs' hk'
       exact hI.inj k k' c0 c1 b2 h0 h1 hb2 hb2'
      ·intro j u sz hj a' n' c2 hu hpos
       rcases hntk j u sz hj with ⟨rfl, ⟨h0, hu8⟩, rfl, rfl⟩ | ⟨h1, h2⟩
       ·injection hu with e1 e2 e3
        injection e1 with e1
        subst e1; subst e2; subst e3; subst h0
        have ho := g2 hpos
        simp only [Nat.zero_mul] at ho
        refine ⟨arr, ty, ho, rfl, .inl hbase, p3, ⟨g5, fun h => by rw [hu8] at h; cases h⟩, by omega, fun q hq => ?_⟩
        simp only [x', M']
        rw [if_neg (by rintro ⟨_, h5⟩; rw [Nat.zero_add] at h5; omega)]
        exact p5 q
       ·obtain ⟨cur, ty2, r1, r2, r3, r4, r5, r6, r7⟩ := hI.tok j u sz h2 a' n' c2 hu hpos
        refine ⟨cur, ty2, r1, r2, r3, r4, r5, r6, fun q hq => ?_⟩
        show M' a'.block q = none
        rw [hM' _ q (htok j a' n' c2 sz (by rw [← hu]; exact h2) hpos)]; exact r7 q hq
      ·intro j a' n' c2 sz k cs hj hpos hk hl
       obtain ⟨h1, c0, h0, _⟩ := hm k cs hk
       rcases hntk j _ sz hj with ⟨_, _, hu, _⟩ | ⟨_, h2⟩
       ·injection hu with e1 e2 e3
        injection e1 with e1
        subst e1
        exact hne k c0 b h1 h0 hl rfl
       ·exact hI.tokslot j a' n' c2 sz k c0 h2 hpos h0 hl
      ·intro j j' a' n' c2 sz a2 n2 c3 sz2 hj hj' h1 h2 hab
       rcases hntk j _ sz hj with ⟨r1, _, hu, _⟩ | ⟨_, r2⟩
       ·rcases hntk j' _ sz2 hj' with ⟨r1', _, hu', _⟩ | ⟨_, r2'⟩
        ·rw [r1, r1']
        ·injection hu with e1 e2 e3
         injection e1 with e1
         subst e1
         exact absurd hab.symm (htok j' a2 n2 c3 sz2 r2' h2)
       ·rcases hntk j' _ sz2 hj' with ⟨r1', _, hu', _⟩ | ⟨_, r2'⟩
        ·injection hu' with e1 e2 e3
         injection e1 with e1
         subst e1
         exact absurd hab (htok j a' n' c2 sz r2 h1)
        ·exact hI.toktok j j' a' n' c2 sz a2 n2 c3 sz2 r2 r2' h1 h2 hab
      ·intro b' q u hu
       simp only [x', M'] at hu
       split at hu
       ·rename_i hbq
        obtain ⟨rfl, _⟩ := hbq
        exact .inr (.inl hbase)
       ·exact hI.new b' q u hu
      ·refine hI.more.step (fun k b2 cs hk hb2 => ?_) (fun b2 ar t2 hb2 => ⟨ar, hb2, Nat.le_refl _⟩) (fun _ _ => rfl) rfl (Nat.le_refl _)
       obtain ⟨_, c0, h0, hc⟩ := hm k cs hk
       exact ⟨c0, h0, hb2, rfl, fun hv => virgin_chill (hc ▸ hv), fun hv => by rw [hc, isMp_chill] at hv; exact hv⟩
     ·have hset := (hs.tmps.scrub hext).set t (a := .sl false ks ((rows.drop off).take n) (match Nat.beq off 0 && !u8k ks with | true => .tok (40000 + t) | false => .no)) (v := .slice (some ⟨b, o, none⟩) n c') (by
       refine .sl _ _ _ _ _ hd ?_
       split
       ·rename_i h0
        show tk' (40000 + t) = _
        simp only [tk', if_true, h0]
       ·trivial)
      rw [set_same hv] at hset
      exact hset
    ·cases h
   ·cases h
  ·cases h
 ·exact ⟨x, s, hs, h, rfl⟩
 ·cases h

theorem niled_sound {t : Nat} {s : St} {x : X} {w : World} {a : Act} {k : St → Option R} (hs : StOk e x w s a) (h : niled t s k = some res) :
  ∃ x' s', StOk e x' w s' a ∧ k s' = some res := by
 unfold niled at h
 split at h
 ·rename_i nl ks rows r ht
  obtain ⟨v, hv, hr⟩ := hs.tmps.get ht
  cases nl with
  |true =>
   have hset := hs.tmps.set t (a := .sl true ks [] .ex) (v := v) (by
    cases hr with
    |sl _ _ _ _ _ hd hrt =>
     cases hd with
     |nil => exact .sl _ _ _ _ _ (.nil ks) ⟨_, _, rfl⟩)
   rw [set_same hv] at hset
   exact ⟨x, ⟨s.t.set t (.sl true ks [] .ex), s.m⟩, ⟨hs.inv, hset, hs.defers⟩, h⟩
  |false =>
   have hset := hs.tmps.set t hr
   rw [set_same hv] at hset
   exact ⟨x, ⟨s.t.set t (.sl false ks rows r), s.m⟩, ⟨hs.inv, hset, hs.defers⟩, h⟩
 ·exact ⟨x, s, hs, h⟩
 ·cases h

theorem bareAt_sound {slot : Nat} {s : St} {x : X} {w : World} {a : Act} {k : St → Option R} (hs : StOk e x w s a) (h : bareAt slot s k = some res) :
  ∃ x' s', StOk e x' w s' a ∧ k s' = some res := by
 unfold bareAt at h
 split at h
 ·rename_i cs hcs
  have hI : Inv e x w (write s.m slot (AV.bareL cs)) := by
   refine hs.inv.refill ?_
   intro j ds hj
   rw [lookup_write] at hj
   split at hj
   ·rename_i he
    subst he
    cases hj
    exact ⟨cs, hcs, ⟨virgin_bare, isMp_bare cs⟩, fun _ _ _ _ _ hc => hc.bare rfl ⟨rfl, rfl, rfl⟩⟩
   ·exact ⟨ds, hj, ⟨id, rfl⟩, fun _ _ _ _ _ hc => hc⟩
  exact ⟨x, ⟨s.t, write s.m slot (AV.bareL cs)⟩, ⟨hI, hs.tmps, hs.defers⟩, h⟩
 ·exact ⟨x, s, hs, h⟩

theorem renSlot_sound {src dst : Nat} {s : St} {x : X} {w : World} {a : Act} {k : St → Option R} (hs : StOk e x w s a) (h : renSlot src dst s k = some res) :
  ∃ x' s', StOk e x' w s' a ∧ k s' = some res := by
 unfold renSlot at h
 split at h
 ·rename_i cs0 h0
  split at h
  ·rename_i hc
   simp only [Bool.and_eq_true, Nat.blt_eq, Bool.not_eq_true'] at hc
   have hne : src ≠ dst := fun e => by subst e; simp at hc
   exact ⟨_, _, ⟨hs.inv.ren hc.1.1 hc.1.2 hne h0, hs.tmps.ren, hs.defers⟩, h⟩
  ·cases h
 ·exact ⟨x, s, hs, h⟩

theorem renTok_sound {t : Nat} {s : St} {x : X} {w : World} {a : Act} {k : St → Option R} (hs : StOk e x w s a) (h : renTok t s k = some res) :
  ∃ x' s', StOk e x' w s' a ∧ k s' = some res ∧ x'.loc = x.loc := by
 unfold renTok at h
 split at h
 ·rename_i nl ks rows j ht
  obtain ⟨v, hv, hr⟩ := hs.tmps.get ht
  cases hr with | sl _ _ _ _ _ hd hrt => ?_
  have hrt : x.tk j = some (v, ks) := hrt
  have hI := hs.inv
  have hmem : mem (40000 + t) [40000 + t, j] = true := by simp [mem]
  have hx := Ext.withTok x (40000 + t) v ks [40000 + t, j] hmem
  refine ⟨x.withTok (40000 + t) v ks [40000 + t, j], _, ⟨hI.withTok (40000 + t) v ks _ hmem (hI.tok j v ks hrt) ?_ ?_, ?_, hs.defers⟩, h, rfl⟩
  ·rintro a' n c i cs rfl hc hl
   exact hI.tokslot j a' n c ks i cs hrt hc hl
  ·rintro a' n c i a2 n2 c2 sz2 rfl hc hm hi hc2 hab
   have := hI.toktok j i a' n c ks a2 n2 c2 sz2 hrt hi hc hc2 hab
   subst this
   simp [mem] at hm
  ·have hset := (hs.tmps.scrub hx).set t (a := .sl nl ks rows (.tok (40000 + t))) (v := v) (.sl _ _ _ _ _ hd (by simp [RtOk, X.withTok]))
   rw [set_same hv] at hset
   exact hset
 ·exact ⟨x, s, hs, h, rfl⟩
 ·cases h
theorem Cont.like {x : X} {cs : List AV} {l : List Value} {idx : Nat} {c : AV} (h : Cont x cs l) (hc : cs[idx]? = some c) (hl : slLike c = true) : RepL x cs l := by
 rcases h with h | ⟨ks, rows, rfl, _⟩ | ⟨ag, ks, rows, rfl, _⟩
 ·exact h
 ·rcases idx with _ | idx
  ·simp at hc; subst hc; cases hl
  ·simp at hc
 ·rcases idx with _ | _ | idx
  ·simp at hc; subst hc; cases ag <;> cases hl
  ·simp at hc; subst hc; cases hl
  ·simp at hc
theorem isMp_like {cs : List AV} {idx : Nat} {c : AV} (hc : cs[idx]? = some c) (hl : slLike c = true) : isMp cs = false := by
 cases h : isMp cs with
 |false => rfl
 |true =>
  obtain ⟨ag, ks, rows, rfl⟩ := isMp_eq h
  rcases idx with _ | _ | idx
  ·simp at hc; subst hc; cases ag <;> cases hl
  ·simp at hc; subst hc; cases hl
  ·simp at hc
theorem atM_sound {sl idx : Nat} {s : St} {x : X} {w : World} {a : Act} {k : St → Option R} (f : Nat → St → (St → Option R) → Option R)
  (hf : ∀ {t : Nat} {s : St} {x : X} {a : Act} {k : St → Option R}, StOk e x w s a → f t s k = some res → ∃ x' s', StOk e x' w s' a ∧ k s' = some res ∧ x'.loc sl = x.loc sl)
  (hs : StOk e x w s a) (h : atM sl idx f s k = some res) : ∃ x' s', StOk e x' w s' a ∧ k s' = some res := by
 unfold atM at h
 split at h
 ·rename_i cs hlk
  split at h
  ·rename_i c hc
   split at h
   ·rename_i hlike
    obtain ⟨b, ty, arr, h1, h2, h3, h4, h5⟩ := hs.inv.slot sl _ hlk
    obtain ⟨v, hv, hrv⟩ := (h4.like hc hlike).get hc
    rw [objOf_cells (isMp_like hc hlike)] at h3
    obtain ⟨x', s', hs', h', hloc⟩ := hf (s := ⟨s.t ++ [c], s.m⟩) (a := { a with tmps := ⟨a.tmps.toList ++ [v]⟩ }) (x := x) ⟨hs.inv, hs.tmps.append (.cons _ _ _ _ hrv .nil), hs.defers⟩ h
    have hlen := hs.tmps.length
    unfold atE at h'
    split at h'
    ·rename_i c' hc'
     split at h'
     ·rename_i cs' hlk'
      split at h'
      ·rename_i c0 hc0
       split at h'
       ·rename_i hok
        simp only [Bool.and_eq_true, Bool.not_eq_true'] at hok
        obtain ⟨⟨hl1, hl2⟩, h3n⟩ := hok
        have hlt : idx < cs'.length := (List.getElem?_eq_some_iff.1 hc0).1
        have hset : (cs'.set idx c')[idx]? = some c' := by simp [hlt]
        obtain ⟨v', hv', hr'⟩ := hs'.tmps.get hc'
        rw [hlen] at hv'
        simp only [List.getElem?_append_right (Nat.le_refl _), Nat.sub_self, List.getElem?_cons_zero, Option.some.injEq] at hv'
        subst hv'
        refine ⟨x', _, ⟨?_, ?_, hs.defers⟩, h'⟩
        ·refine hs'.inv.refill ?_
         intro j ds hj
         rw [lookup_write] at hj
         split at hj
         ·rename_i he
          subst he
          cases hj
          refine ⟨cs', hlk', ⟨fun hv => ?_, ?_⟩, fun b' ty' arr' q1 q2 q3 => ?_⟩
          ·obtain ⟨r, u, he⟩ := virgin_iff.1 hv
           have := congrArg List.length he
           simp only [List.length_set, List.length_cons, List.length_nil] at this
           rw [this] at h3n; cases h3n
          ·rw [isMp_like hset hl1, isMp_like hc0 hl2]
          ·rw [hloc, h1] at q1
           cases q1
           rw [objOf_cells (isMp_like hc0 hl2)] at q2
           rw [h3] at q2
           cases q2
           have := (q3.like hc0 hl2).set idx hr'
           rw [set_same hv] at this
           exact .inl this
         ·exact ⟨ds, hj, ⟨id, rfl⟩, fun _ _ _ _ _ hc => hc⟩
        ·have := hs'.tmps.take s.t.length
         rw [hlen] at this
         simp only [List.take_left'] at this
         rw [hlen]
         simpa using this
       ·cases h'
      ·cases h'
     ·cases h'
    ·cases h'
   ·exact ⟨x, s, hs, h⟩
  ·exact ⟨x, s, hs, h⟩
 ·exact ⟨x, s, hs, h⟩

theorem pre_sound0 (heL : e.L = []) {w : World} {a : Act} {k : St → Option R} : ∀ {l : List Nat} {s : St} {x : X}, StOk e x w s a → pre l s k = some res → ∃ x' s', StOk e x' w s' a ∧ k s' = some res
 |[], s, x, hs, h => ⟨x, s, hs, h⟩
 |0 :: t :: slot :: l, s, x, hs, h => by
  obtain ⟨x', s', hs', h', _⟩ := thaw_sound heL hs h
  exact pre_sound0 heL hs' h'
 |1 :: t :: l, s, x, hs, h => by
  obtain ⟨x', s', hs', h', _⟩ := freeze_sound hs h
  exact pre_sound0 heL hs' h'
 |2 :: t :: l, s, x, hs, h => by
  obtain ⟨x', s', hs', h'⟩ := niled_sound hs h
  exact pre_sound0 heL hs' h'
 |3 :: slot :: l, s, x, hs, h => by
  obtain ⟨x', s', hs', h'⟩ := bareAt_sound hs h
  exact pre_sound0 heL hs' h'
 |[0], s, x, hs, h => by cases h
 |[0, _], s, x, hs, h => by cases h
 |[1], s, x, hs, h => by cases h
 |[2], s, x, hs, h => by cases h
 |4 :: slot :: idx :: l, s, x, hs, h => by
  obtain ⟨x', s', hs', h'⟩ := atM_sound (fun t s k => freeze t s k) (fun h1 h2 => by obtain ⟨x', s', g1, g2, g3⟩ := freeze_sound h1 h2; exact ⟨x', s', g1, g2, by rw [g3]⟩) hs h
  exact pre_sound0 heL hs' h'
 |5 :: slot :: idx :: l, s, x, hs, h => by
  obtain ⟨x', s', hs', h'⟩ := atM_sound (fun t s k => renTok t s k) (fun h1 h2 => by obtain ⟨x', s', g1, g2, g3⟩ := renTok_sound h1 h2; exact ⟨x', s', g1, g2, by rw [g3]⟩) hs h
  exact pre_sound0 heL hs' h'
 |6 :: slot :: idx :: new :: l, s, x, hs, h => by
  simp only [pre] at h
  split at h
  ·cases h
  ·rename_i hne
   have hne : slot ≠ new := fun e => by subst e; simp at hne
   obtain ⟨x', s', hs', h'⟩ := atM_sound (fun t s k => thaw t new s k) (fun h1 h2 => by obtain ⟨x', s', g1, g2, g3⟩ := thaw_sound heL h1 h2; exact ⟨x', s', g1, g2, g3 _ hne⟩) hs h
   exact pre_sound0 heL hs' h'
 |[3], s, x, hs, h => by cases h
 |[4], s, x, hs, h => by cases h
 |[5], s, x, hs, h => by cases h
 |[6], s, x, hs, h => by cases h
 |[4, _], s, x, hs, h => by cases h
 |[5, _], s, x, hs, h => by cases h
 |[6, _], s, x, hs, h => by cases h
 |[6, _, _], s, x, hs, h => by cases h
 |7 :: src :: dst :: l, s, x, hs, h => by
  obtain ⟨x', s', hs', h'⟩ := renSlot_sound hs h
  exact pre_sound0 heL hs' h'
 |[7], s, x, hs, h => by cases h
 |[7, _], s, x, hs, h => by cases h
 |(n + 8) :: l, s, x, hs, h => by rcases l with _ | ⟨_, _ | ⟨_, _ | ⟨_, _⟩⟩⟩ <;> cases h
theorem pre_sound {w : World} {a : Act} {k : St → Option R} {l : List Nat} {s : St} {x : X} (hl : e.L = [] ∨ l = []) (hs : StOk e x w s a) (h : pre l s k = some res) : ∃ x' s', StOk e x' w s' a ∧ k s' = some res := by
 rcases hl with hl | hl
 ·exact pre_sound0 hl hs h
 ·subst hl; exact ⟨x, s, hs, h⟩

theorem oldExt_get : ∀ (l : List (List AV)) (i : Nat), (oldExt l)[i]? = (l[i]?).map AV.oldenL
 |[], i => by simp [oldExt]
 |cs :: l, 0 => by simp [oldExt]
 |cs :: l, i + 1 => by simpa [oldExt] using oldExt_get l i
theorem virgin_olden {cs : List AV} (h : virgin (AV.oldenL cs) = true) : virgin cs = true := by
 rcases cs with _ | ⟨a, _ | ⟨b, _ | ⟨c, _ | ⟨d, cs⟩⟩⟩⟩
 ·exact h
 ·cases a <;> simp [AV.oldenL, AV.olden, virgin] at h
 ·cases a <;> cases b <;> simp [AV.oldenL, AV.olden, virgin] at h
 ·obtain ⟨r, v, h⟩ := virgin_iff.1 h
  simp only [AV.oldenL, List.cons.injEq, and_true] at h
  obtain ⟨h1, h2, h3⟩ := h
  cases a <;> simp only [AV.olden] at h1 <;> cases h1
  cases b <;> simp only [AV.olden] at h2 <;> cases h2
  cases c <;> simp only [AV.olden] at h3 <;> cases h3
  rfl
 ·obtain ⟨r, v, h⟩ := virgin_iff.1 h
  simp [AV.oldenL] at h
theorem Cont.olden {x : X} (h : x.M0 = x.M) {cs : List AV} {l : List Value} (hc : Cont x cs l) : Cont x (AV.oldenL cs) l := by
 rcases hc with hc | ⟨ks, rows, rfl, hc⟩ | ⟨ag, ks, rows, rfl, hc⟩
 ·exact .inl (hc.olden h)
 ·exact .inr (.inl ⟨ks, rows, rfl, hc⟩)
 ·exact .inr (.inr ⟨ag, ks, rows, by cases ag <;> rfl, hc⟩)
theorem isMp_olden (cs : List AV) : isMp (AV.oldenL cs) = isMp cs := by
 cases h : isMp cs with
 |true => obtain ⟨ag, ks, rows, rfl⟩ := isMp_eq h; cases ag <;> rfl
 |false =>
  cases h' : isMp (AV.oldenL cs) with
  |false => rfl
  |true =>
   obtain ⟨ag, ks, rows, he⟩ := isMp_eq h'
   rcases cs with _ | ⟨a, _ | ⟨b, _ | ⟨c, cs⟩⟩⟩ <;> simp [AV.oldenL] at he
   obtain ⟨h1, h2⟩ := he
   have ha : a = mpTag ag := by cases ag <;> cases a <;> simp only [AV.olden, mpTag] at h1 <;> cases h1 <;> rfl
   have hb : b = .arr ks rows := by cases b <;> simp only [AV.olden] at h2 <;> cases h2 <;> rfl
   subst ha hb
   rw [isMp_tag] at h; cases h
theorem Inv.olden {x : X} {w : World} {ext : List (List AV)} (hI : Inv e x w (zipExt 1000 ext)) (h : x.M0 = x.M) : Inv e x w (zipExt 1000 (oldExt ext)) := by
 refine hI.refill ?_
 intro j ds hj
 rw [lookup_zipExt] at hj
 split at hj
 ·rename_i hle
  rw [oldExt_get] at hj
  cases hx : ext[j - 1000]? with
  |none => rw [hx] at hj; cases hj
  |some cs =>
   rw [hx] at hj; cases hj
   exact ⟨cs, by rw [lookup_zipExt, if_pos hle]; exact hx, ⟨virgin_olden, isMp_olden cs⟩, fun _ _ _ _ _ hc => hc.olden h⟩
 ·cases hj
end Go.Den
namespace Go.Den
variable {e : Env} {R : Type} {res : R}

theorem RepL.setT {x : X} {l : List AV} {a : Act} (h : RepL x l a.tmps.toList) (d : Option Tmp) {r : AV} {v : Value} (hr : Rep x r v) : RepL x (setT l d r) (a.put d v).tmps.toList := by
 cases d with
 |none => exact h
 |some d => simp only [Den.setT, Act.put, Array.toList_setIfInBounds]; exact h.set d hr

theorem StOk.apply {x x' : X} {w w' : World} {s : St} {a : Act} (h : StOk e x w s a) {eff : Eff} {v : Value} (ha : After e x x' w' s.m v eff) (d : Option Tmp) : StOk e x' w' (s.apply d eff) (a.put d v) := by
 have hdef : (a.put d v).defers = e.D := by cases d <;> exact h.defers
 cases eff with
 |pure r => exact ⟨ha.2.1, (h.tmps.mono ha.2.2).setT d ha.1, hdef⟩
 |full r p ks wr => exact ⟨ha.2.1, (h.tmps.scrub ha.2.2).setT d ha.1, hdef⟩
theorem StOk.apply_none {x x' : X} {w w' : World} {s : St} {a : Act} (h : StOk e x w s a) {eff : Eff} {v : Value} (ha : After e x x' w' s.m v eff) : StOk e x' w' (s.apply none eff) a ∧ Rep x' eff.val v := by
 refine ⟨h.apply ha none, ?_⟩
 cases eff with
 |pure r => exact ha.1
 |full r p ks wr => exact ha.1

def PanOk (e : Env) (kp : AV → St → Option R) (res : R) (Q : Exit → Act → World → Prop) : Prop :=
 ∀ v s' x' w' a' u, kp v s' = some res → StOk e x' w' s' a' → Rep x' v u → Q (.panic [{ v := u, recovered := false }]) a' w'

theorem step_sound {Φ : Orc} (hΦ : OSound e.P Φ) {o : Oper} {x : X} {w : World} {s : St} {a : Act} {k : St → Option R} {kp : AV → St → Option R} {next : Act → World → Prop} {Q : Exit → Act → World → Prop}
  (hs : StOk e x w s a) (h : stepE e.P Φ o s k kp = some res) (hk : ∀ s' x' w' a', k s' = some res → StOk e x' w' s' a' → next a' w') (hkp : PanOk e kp res Q) : o.wp e.P a w next Q := by
 unfold stepE at h
 refine op_sound hΦ hs.inv hs.tmps ?_ ?_ h
 ·intro eff x' w' v hk' ha
  exact hk _ x' w' _ hk' (hs.apply ha o.dst)
 ·intro eff x' w' v hk' ha
  obtain ⟨h1, h2⟩ := hs.apply_none ha
  exact hkp _ _ x' w' a v hk' h1 h2

theorem guardTmp_get : ∀ (l : List Oper) (j : Nat), guardTmp l j = (l[j]?).bind (·.dst)
 |[], j => by simp [guardTmp]
 |o :: l, 0 => by simp [guardTmp]
 |o :: l, j + 1 => by simp [guardTmp, guardTmp_get l j]

theorem StOk.setB {x : X} {w : World} {s : St} {a : Act} (h : StOk e x w s a) {d : Nat} {b : Bool} (hd : s.t[d]? = some (.dv (.val (.bool b)))) : StOk e x w { t := s.t.set d (.B b), m := s.m } a ∧ a.tmps[d]? = some (.bool b) := by
 obtain ⟨v, hv, hr⟩ := h.tmps.get hd
 obtain rfl := Rep.val hr
 refine ⟨⟨h.inv, ?_, h.defers⟩, by rw [← Array.getElem?_toList]; exact hv⟩
 have := h.tmps.set d (rep_val x (v := .bool b) rfl)
 have e1 : a.tmps.toList.set d (.bool b) = a.tmps.toList := by
  apply List.ext_getElem?
  intro i
  by_cases hi : d = i
  ·subst hi
   have hlt : d < a.tmps.toList.length := (List.getElem?_eq_some_iff.1 hv).1
   rw [List.getElem?_set_self hlt, hv]
  ·rw [List.getElem?_set_ne hi]
 rw [e1] at this
 exact this

theorem reg_sound {Φ : Orc} (hΦ : OSound e.P Φ) (lv : Live) (hlv : e.L = [] ∨ ∀ id, prep lv id = []) (ops : Array Oper) {k : St → Option R} {kp : AV → St → Option R} {Q : Exit → Act → World → Prop}
  (hk : ∀ s' x' w' a', k s' = some res → StOk e x' w' s' a' → Q .normal a' w') (hkp : PanOk e kp res Q) :
  ∀ (l : List Oper) (i : Nat), (∀ j, l[j]? = ops[i + j]?) → ∀ (s : St) (x : X) (w : World) (a : Act), StOk e x w s a → regE e.P Φ lv ops.toList l s k kp = some res → wpOps e.P ops Q (List.range' i l.length) a w
 |[], i, _, s, x, w, a, hs, h => by
  simp only [regE] at h
  exact hk s x w a h hs
 |o :: l, i, hl, s, x, w, a, hs, h => by
  have ho : ops[i]? = some o := by have := hl 0; simpa using this.symm
  have ih := reg_sound hΦ lv hlv ops hk hkp l (i + 1) (fun j => by have := hl (j + 1); simp only [List.getElem?_cons_succ] at this; rw [this]; congr 1; omega)
  rw [List.length_cons, List.range'_succ, wpOps_cons]
  simp only [wpOp, ho]
  simp only [regE] at h
  obtain ⟨x, s, hs, h⟩ := pre_sound (hlv.elim .inl fun h => .inr (by unfold opPrep; split <;> first | exact h _ | rfl)) hs h
  unfold reg1 at h
  split at h
  ·rename_i hg
   have hw : Region.wanted o (yielded ops a.tmps) = true := by simp [Region.wanted, hg]
   rw [if_pos hw]
   exact .inl (step_sound hΦ hs h (fun s' x' w' a' h1 h2 => ih s' x' w' a' h2 h1) hkp)
  ·rename_i j want hg
   split at h
   ·cases h
   ·rename_i d hd
    split at h
    ·rename_i b hb
     obtain ⟨hs', hv⟩ := hs.setB hb
     have hy : yielded ops a.tmps j = some b := by
      rw [guardTmp_get, Array.getElem?_toList] at hd
      simp [yielded, hd, hv]
     have hwant : Region.wanted o (yielded ops a.tmps) = (b == want) := by
      simp only [Region.wanted, hg, hy]
      cases b <;> cases want <;> rfl
     rw [hwant]
     cases b <;> cases want
     ·simp only at h
      rw [if_pos (by decide)]
      exact .inl (step_sound hΦ hs' h (fun s' x' w' a' h1 h2 => ih s' x' w' a' h2 h1) hkp)
     ·simp only at h
      rw [if_neg (by decide)]
      exact ih { t := setT (s.t.set d (.B false)) o.dst (.tup []), m := s.m } x w _ ⟨hs'.inv, hs'.tmps.setT o.dst (.tup [] [] .nil), by cases o.dst <;> exact hs'.defers⟩ h
     ·simp only at h
      rw [if_neg (by decide)]
      exact ih { t := setT (s.t.set d (.B true)) o.dst (.tup []), m := s.m } x w _ ⟨hs'.inv, hs'.tmps.setT o.dst (.tup [] [] .nil), by cases o.dst <;> exact hs'.defers⟩ h
     ·simp only at h
      rw [if_pos (by decide)]
      exact .inl (step_sound hΦ hs' h (fun s' x' w' a' h1 h2 => ih s' x' w' a' h2 h1) hkp)
    ·rename_i hb
     obtain ⟨v, hv, hr⟩ := hs.tmps.get hb
     have hv' : v = undef := by cases hr with | tup _ _ hl => cases hl; rfl
     subst hv'
     have hy : yielded ops a.tmps j = none := by
      rw [guardTmp_get, Array.getElem?_toList] at hd
      rw [Array.getElem?_toList] at hv
      simp [yielded, hd, hv, undef]
     have hwant : Region.wanted o (yielded ops a.tmps) = false := by
      simp [Region.wanted, hg, hy]
     rw [hwant, if_neg (by decide)]
     exact ih { t := setT s.t o.dst (.tup []), m := s.m } x w _ ⟨hs.inv, hs.tmps.setT o.dst (.tup [] [] .nil), by cases o.dst <;> exact hs.defers⟩ h
    ·cases h

inductive ExRel (x : X) : Ex → Exit → Prop
 |normal : ExRel x .normal .normal
 |exit (id : Nat) : ExRel x (.exit id) (.exit id)
 |ret : ExRel x .ret .ret
 |pan (v : AV) (u : Value) : Rep x v u → ExRel x (.pan v) (.panic [{ v := u, recovered := false }])

def KOk (e : Env) (K : Ex → St → Option R) (res : R) (Q : Exit → Act → World → Prop) : Prop :=
 ∀ ex E s x w a, K ex s = some res → StOk e x w s a → ExRel x ex E → Q E a w

theorem reg_code {Φ : Orc} (hΦ : OSound e.P Φ) {lv : Live} (hlv : e.L = [] ∨ ∀ id, prep lv id = []) {id : Nat} {ops : Array Oper} {K : Ex → St → Option R} {Q : Exit → Act → World → Prop} (hK : KOk e K res Q) {s : St} {x : X} {w : World} {a : Act} (hs : StOk e x w s a)
  (h : regE e.P Φ lv ops.toList ops.toList s (fun s => K .normal s) (fun v s => K (.pan v) s) = some res) : (Code.region id ops false).wp e.P Q a w := by
 refine wp_region ?_
 rw [List.range_eq_range', ← Array.length_toList]
 exact reg_sound hΦ lv hlv ops (fun s' x' w' a' h1 h2 => hK .normal .normal s' x' w' a' h1 h2 .normal) (fun v s' x' w' a' u h1 h2 h3 => hK (.pan v) _ s' x' w' a' h1 h2 (.pan v u h3)) ops.toList 0 (fun j => by simp) s x w a hs h

theorem RepL.keep {x : X} (tl : List Nat) : ∀ {l vs}, RepL x l vs → ∀ i, RepL x (keepT tl i l) vs
 |_, _, .nil, i => .nil
 |_, _, .cons a v l vs ha hl, i => by
  simp only [keepT]
  refine .cons _ _ _ _ ?_ (RepL.keep tl hl (i + 1))
  split
  ·exact ha
  ·exact .junk v
theorem memTok_mem : ∀ {m : Mem} {q : Nat} {cs : List AV} {i : Nat} {a : AV} {k : Nat}, lookup m q = some cs → cs[i]? = some a → k ∈ a.topTok → k ∈ memToks m
 |[], q, cs, i, a, k, h, _, _ => by simp [lookup] at h
 |(j, ds) :: m, q, cs, i, a, k, h, hi, hk => by
  simp only [lookup, beq_eq] at h
  simp only [memToks, List.mem_append]
  split at h
  ·cases h; exact .inl (top_mem hi hk)
  ·exact .inr (memTok_mem h hi hk)
theorem mem_unique : ∀ {m : Mem}, (memToks m).Nodup → ∀ {q q' : Nat} {cs cs' : List AV} {i j : Nat} {a b : AV} {k : Nat}, lookup m q = some cs → lookup m q' = some cs' → cs[i]? = some a → cs'[j]? = some b → k ∈ a.topTok → k ∈ b.topTok → q = q' ∧ i = j
 |[], _, q, q', cs, cs', i, j, a, b, k, h, _, _, _, _, _ => by simp [lookup] at h
 |(p, ds) :: m, hn, q, q', cs, cs', i, j, a, b, k, h, h', hi, hj, ha, hb => by
  simp only [memToks] at hn
  obtain ⟨h1, h2, h3⟩ := List.nodup_append.1 hn
  simp only [lookup, beq_eq] at h h'
  split at h
  ·rename_i hp
   cases h
   split at h'
   ·rename_i hp'
    cases h'
    exact ⟨by rw [← hp, ← hp'], top_unique h1 hi hj ha hb⟩
   ·exact absurd rfl (h3 k (top_mem hi ha) k (memTok_mem h' hj hb))
  ·split at h'
   ·cases h'
    exact absurd rfl (h3 k (top_mem hj hb) k (memTok_mem h hi ha))
   ·exact mem_unique h2 h h' hi hj ha hb

theorem lookup_keepM (ml : List Nat) : ∀ (m : Mem) (k : Nat), lookup (keepM ml m) k = if mem k ml then lookup m k else none
 |[], k => by simp [keepM, lookup]
 |(j, cs) :: m, k => by
  simp only [keepM]
  split
  ·rename_i hj
   simp only [lookup, beq_eq, lookup_keepM ml m k]
   by_cases h : j = k
   ·subst h; simp [hj]
   ·simp [h]
  ·rename_i hj
   rw [lookup_keepM ml m k]
   simp only [lookup, beq_eq]
   by_cases h : j = k
   ·subst h; simp [hj]
   ·simp [h]
theorem deadM_mem (ml : List Nat) : ∀ (m : Mem) (k : Nat), mem k ml = true → mem k (deadM ml m) = false
 |[], k, _ => rfl
 |(j, cs) :: m, k, h => by
  simp only [deadM]
  split
  ·exact deadM_mem ml m k h
  ·rename_i hj
   simp only [mem, Bool.or_eq_false_iff]
   refine ⟨?_, deadM_mem ml m k h⟩
   cases hb : Nat.beq j k with
   |false => rfl
   |true => rw [beq_eq.1 hb] at hj; exact absurd h hj
theorem lookup_retokM : ∀ (m : Mem) (k : Nat), lookup (retokM m) k = (lookup m k).map (retokL (20000 + 64 * k))
 |[], k => rfl
 |(j, cs) :: m, k => by
  simp only [retokM, lookup, beq_eq, lookup_retokM m k]
  by_cases h : j = k
  ·subst h; simp
  ·simp [h]
theorem shortM_get : ∀ {m : Mem}, shortM m = true → ∀ {k : Nat} {cs : List AV}, lookup m k = some cs → cs.length ≤ 64
 |[], _, k, cs, h => by simp [lookup] at h
 |(j, ds) :: m, hs, k, cs, h => by
  simp only [shortM, Bool.and_eq_true, Nat.ble_eq] at hs
  simp only [lookup, beq_eq] at h
  split at h
  ·cases h; exact hs.1
  ·exact shortM_get hs.2 h

def heldM (m : Mem) (loc : Nat → Option Nat) (w : World) (j : Nat) : Option (Value × List Kd) :=
 match lookup m (j / 64), loc (j / 64) with
 |some cs, some b => match cs[j % 64]?, w.cell? ⟨b, j % 64, none⟩ with
  |some (.sl _ ks rows .ex), some v => match rows.isEmpty with | true => some (v, ks) | false => none
  |some (.sl _ ks _ (.tok _)), some v => some (v, ks)
  |_, _ => none
 |_, _ => none

theorem retokL_rep {x x' : X} (hM : x'.M = x.M) (hl : x'.loc = x.loc ∧ x'.cap = x.cap ∧ x'.M0 = x.M0) : ∀ {l : List AV} {vs : List Value}, RepL x l vs → ∀ (j : Nat), (∀ (i : Nat) (n : Bool) (ks : List Kd) (rows : Rows) (r : Right) (v : Value), l[i]? = some (.sl n ks rows r) → vs[i]? = some v → r.held rows = true → x'.tk (j + i) = some (v, ks)) → RepL x' (retokL j l) vs
 |_, _, .nil, j, _ => .nil
 |_, _, .cons a v l vs ha h, j, hk => by
  simp only [retokL]
  refine .cons _ _ _ _ ?_ (retokL_rep hM hl h (j + 1) fun i n ks rows r u h1 h2 h3 => by have := hk (i + 1) n ks rows r u (by simpa using h1) (by simpa using h2) h3; rw [← this]; congr 1; omega)
  cases ha with
  |sl n kd rows r _ hd hr =>
   simp only [AV.retok]
   refine .sl n kd rows _ v (by rw [hM]; exact hd) ?_
   cases r with
   |no => trivial
   |ex =>
    simp only [Right.retok]
    cases he : rows.isEmpty with
    |true => exact hk 0 n kd rows .ex v rfl rfl he
    |false => trivial
   |tok k => exact hk 0 n kd rows (.tok k) v rfl rfl rfl
   |old => show RepD x'.M0 _ v; rw [hl.2.2]; exact hr
  |dv d _ h1 => exact Rep.bare hM hl (.dv d v h1)
  |agg cs us h1 => exact Rep.bare hM hl (.agg cs us h1)
  |tup cs us h1 => exact Rep.bare hM hl (.tup cs us h1)
  |pl k off b h1 => exact Rep.bare hM hl (.pl k off b h1)
  |pv kd row off b o h1 h2 h3 => exact Rep.bare hM hl (.pv kd row off b o h1 h2 h3)
  |fn f cs us h1 => exact Rep.bare hM hl (.fn f cs us h1)
  |ifc t a u h1 => exact Rep.bare hM hl (.ifc t a u h1)
  |ms k kd off n c b o c' h1 g1 g2 g3 => exact Rep.bare hM hl (.ms k kd off n c b o c' h1 g1 g2 g3)
  |pa k kd i j b h1 => exact Rep.bare hM hl (.pa k kd i j b h1)
  |junk _ => exact Rep.bare hM hl (.junk v)

theorem VirMap.retok (j : Nat) : VirMap (AV.retok j) where
 a a h := by
  cases a with
  |sl => cases h
  |_ => exact VirMap.bare.a _ h
 b a r h := by
  cases a with
  |sl n kd rows r' => simp only [AV.retok] at h; cases h; exact ⟨_, rfl⟩
  |_ => exact VirMap.bare.b _ _ h
 c a v h := by
  cases a with
  |sl => cases h
  |_ => exact VirMap.bare.c _ _ h
theorem MpMap.retok (j : Nat) : MpMap (AV.retok j) where
 tag ag := by cases ag <;> rfl
 arr ls rows := ⟨_, rfl⟩
 flat ls rows h := rfl
 tag' a ag h := by
  cases a with
  |sl => cases ag <;> cases h
  |_ => exact MpMap.bare.tag' _ _ h
 arr' a ls rows h := by
  cases a with
  |sl => cases h
  |_ => exact MpMap.bare.arr' _ _ _ h
theorem isMp_retok (j : Nat) (cs : List AV) : isMp (retokL j cs) = isMp cs := by
 rcases cs with _ | ⟨a, _ | ⟨b, _ | ⟨c, l⟩⟩⟩
 ·rfl
 ·rw [isMp_one]; exact isMp_one _
 ·exact isMp_two (MpMap.retok j) (MpMap.retok (j + 1)) a b
 ·rw [isMp_three]; exact isMp_three _ _ _ _
theorem virgin_retok {j : Nat} {cs : List AV} (h : virgin (retokL j cs) = true) : virgin cs = true := by
 obtain ⟨r, v, h⟩ := virgin_iff.1 h
 rcases cs with _ | ⟨a, _ | ⟨b, _ | ⟨c, _ | ⟨d, cs⟩⟩⟩⟩
 ·cases h
 ·simp [retokL] at h
 ·simp [retokL] at h
 ·simp only [retokL, List.cons.injEq, and_true] at h
  obtain ⟨h1, h2, h3⟩ := h
  obtain ⟨r', rfl⟩ := (VirMap.retok _).b _ _ h2
  rw [(VirMap.retok _).a _ h1, (VirMap.retok _).c _ _ h3]; rfl
 ·simp [retokL] at h
theorem retok_sound {t : List AV} {m : Mem} {x : X} {w : World} {a : Act} (hs : StOk e x w { t := t, m := m } a) (hn : nodup (topToks t ++ memToks m) = true) (hlen : t.length ≤ 1000) (hshort : shortM m = true) :
  ∃ x', StOk e x' w { t := retokL 0 t, m := retokM m } a := by
 obtain ⟨hI, hT, hdef⟩ := hs
 simp only at hI hT
 obtain ⟨hn1, hn2, hn3⟩ := List.nodup_append.1 (nodup_iff hn)
 let x' : X := { x with tk := fun j => if j < 1000 then heldT t a.tmps j else if 20000 ≤ j then heldM m x.loc w (j - 20000) else none }
 -- where a token of x' comes from
 have hfromT : ∀ j v sz, heldT t a.tmps j = some (v, sz) → ∃ n ks rows r, t[j]? = some (.sl n ks rows r) ∧ Rep x (.sl n ks rows r) v ∧ sz = ks ∧ r.held rows = true := by
  intro j v sz h
  unfold heldT at h
  split at h
  ·rename_i n ks rows hj
   obtain ⟨u, hu, hr⟩ := hT.get hj
   have : a.tmps.getD j undef = u := by rw [Array.getElem?_toList] at hu; rw [Array.getD_eq_getD_getElem?, hu]; rfl
   rw [this] at h
   split at h
   ·rename_i he
    cases h
    exact ⟨n, _, rows, _, hj, hr, rfl, he⟩
   ·cases h
  ·rename_i n ks rows k hj
   obtain ⟨u, hu, hr⟩ := hT.get hj
   have : a.tmps.getD j undef = u := by rw [Array.getElem?_toList] at hu; rw [Array.getD_eq_getD_getElem?, hu]; rfl
   rw [this] at h
   cases h
   exact ⟨n, _, rows, _, hj, hr, rfl, rfl⟩
  ·cases h
 have hfromM : ∀ j v sz, heldM m x.loc w j = some (v, sz) → ∃ cs n ks rows r, lookup m (j / 64) = some cs ∧ cs[j % 64]? = some (.sl n ks rows r) ∧ Rep x (.sl n ks rows r) v ∧ sz = ks ∧ r.held rows = true := by
  intro j v sz h
  unfold heldM at h
  split at h
  ·rename_i cs b hcs hb
   obtain ⟨b', ty, arr, h1, _, h3, h4, _⟩ := hI.slot _ cs hcs
   rw [hb] at h1
   obtain rfl := Option.some.inj h1
   split at h
   ·rename_i n ks rows v' hc hv
    obtain ⟨u, hu, hr⟩ := h4.get hc
    rw [objOf_cells (notMp_sl hc)] at h3
    have : w.cell? ⟨b, j % 64, none⟩ = some u := by rw [Array.getElem?_toList] at hu; simp [World.cell?, h3, hu]
    rw [this] at hv
    cases hv
    split at h
    ·rename_i he
     cases h
     exact ⟨cs, n, _, rows, _, hcs, hc, hr, rfl, he⟩
    ·cases h
   ·rename_i n ks rows k v' hc hv
    obtain ⟨u, hu, hr⟩ := h4.get hc
    rw [objOf_cells (notMp_sl hc)] at h3
    have : w.cell? ⟨b, j % 64, none⟩ = some u := by rw [Array.getElem?_toList] at hu; simp [World.cell?, h3, hu]
    rw [this] at hv
    cases hv; cases h
    exact ⟨cs, n, _, rows, _, hcs, hc, hr, rfl, rfl⟩
   ·cases h
  ·cases h
 -- one origin: a right, held at one place
 have horig : ∀ j v sz, x'.tk j = some (v, sz) → ∃ r d, (r = .ex → ∀ a n c, v = .slice (some a) n c → ¬ 0 < c) ∧ (r ≠ .no ∧ r ≠ .old) ∧ RtOk x r d v sz ∧ ((j < 1000 ∧ ∃ b, t[j]? = some b ∧ ∀ k, r = .tok k → k ∈ b.topTok) ∨ (20000 ≤ j ∧ ∃ cs b, lookup m ((j - 20000) / 64) = some cs ∧ cs[(j - 20000) % 64]? = some b ∧ ∀ k, r = .tok k → k ∈ b.topTok)) := by
  intro j v sz h
  simp only [x'] at h
  split at h
  ·rename_i hj
   obtain ⟨n, ks, rows, r, h1, h2, rfl, h4⟩ := hfromT j v sz h
   cases h2 with
   |sl _ _ _ _ _ hd hr => exact ⟨r, _, ex_room hd hr h4, held_ne h4, hr, .inl ⟨hj, _, h1, fun k hk => by subst hk; simp [AV.topTok, Right.toks]⟩⟩
  ·split at h
   ·rename_i hj
    obtain ⟨cs, n, ks, rows, r, h0, h1, h2, rfl, h4⟩ := hfromM _ v sz h
    cases h2 with
    |sl _ _ _ _ _ hd hr => exact ⟨r, _, ex_room hd hr h4, held_ne h4, hr, .inr ⟨hj, cs, _, h0, h1, fun k hk => by subst hk; simp [AV.topTok, Right.toks]⟩⟩
   ·cases h
 have hkeep : ∀ {l : List AV} {vs : List Value} (j0 : Nat), RepL x l vs → (∀ (i : Nat) (n : Bool) (ks : List Kd) (rows : Rows) (r : Right) (v : Value), l[i]? = some (.sl n ks rows r) → vs[i]? = some v → r.held rows = true → x'.tk (j0 + i) = some (v, ks)) → RepL x' (retokL j0 l) vs :=
  fun j0 h hk => retokL_rep (x := x) (x' := x') rfl ⟨rfl, rfl, rfl⟩ h j0 hk
 have hI' : Inv e x' w (retokM m) := by
  refine ⟨hI.sub, ?_, ?_, ?_, ?_, ?_, hI.os, hI.tape, hI.output, hI.size, hI.old, hI.mono, hI.new, hI.ext, hI.low, hI.more.step (fun k b cs hk hb => by
   rw [lookup_retokM] at hk
   obtain ⟨c0, h0, hc⟩ := Option.map_eq_some_iff.1 hk
   exact ⟨c0, h0, hb, rfl, fun hv => virgin_retok (hc ▸ hv), fun hv => by rw [← hc, isMp_retok] at hv; exact hv⟩) (fun b arr ty hb => ⟨arr, hb, Nat.le_refl _⟩) (fun _ _ => rfl) rfl (Nat.le_refl _), hI.glob⟩
  ·intro k cs hk
   rw [lookup_retokM] at hk
   obtain ⟨c0, h0, rfl⟩ := Option.map_eq_some_iff.1 hk
   obtain ⟨b, ty, arr, h1, h2, h3, h4, h5⟩ := hI.slot k c0 h0
   refine ⟨b, ty, arr, h1, h2, by rw [objOf_congr (isMp_retok _ c0)]; exact h3, ?_, h5⟩
   rcases h4 with h4 | ⟨kd, rows, rfl, h4⟩ | ⟨ag, kd, rows, rfl, h4⟩
   case inr.inl => exact .inr (.inl ⟨kd, rows, by simp [retokL, AV.retok, AV.bare], h4⟩)
   case inr.inr => exact .inr (.inr ⟨ag, kd, rows, by cases ag <;> rfl, h4⟩)
   refine .inl (hkeep _ h4 ?_)
   intro i n ks rows r v hi hv hr
   have hlt : i < 64 := by
    have h6 := shortM_get hshort h0
    have h7 : i < c0.length := (List.getElem?_eq_some_iff.1 hi).1
    omega
   simp only [x']
   rw [if_neg (by omega), if_pos (by omega)]
   have e1 : 20000 + 64 * k + i - 20000 = 64 * k + i := by omega
   rw [e1]
   have e2 : (64 * k + i) / 64 = k := by omega
   have e3 : (64 * k + i) % 64 = i := by omega
   rw [objOf_cells (notMp_sl hi)] at h3
   have hcell : w.cell? ⟨b, i, none⟩ = some v := by rw [Array.getElem?_toList] at hv; simp [World.cell?, h3, hv]
   unfold heldM
   rw [e2, e3, h0, h1]
   simp only [hi, hcell]
   cases r with
   |no => cases hr
   |old => cases hr
   |ex => simp only [Right.held] at hr; simp only [hr]
   |tok k => rfl
  ·intro k k' cs cs' b hk hk' hb hb'
   rw [lookup_retokM] at hk hk'
   obtain ⟨c0, h0, _⟩ := Option.map_eq_some_iff.1 hk
   obtain ⟨c1, h1, _⟩ := Option.map_eq_some_iff.1 hk'
   exact hI.inj k k' c0 c1 b h0 h1 hb hb'
  ·intro j v sz hj ad n c hv hlt
   obtain ⟨r, d, hr0, hr1, hr2, _⟩ := horig j v sz hj
   cases r with
   |no => exact absurd rfl hr1.1
   |old => exact absurd rfl hr1.2
   |ex => exact absurd hlt (hr0 rfl ad n c hv)
   |tok k => exact hI.tok k v sz hr2 ad n c hv hlt
  ·intro j ad n c sz q cs hj hlt hq
   rw [lookup_retokM] at hq
   obtain ⟨c0, h0, _⟩ := Option.map_eq_some_iff.1 hq
   obtain ⟨r, d, hr0, hr1, hr2, _⟩ := horig j _ sz hj
   cases r with
   |no => exact absurd rfl hr1.1
   |old => exact absurd rfl hr1.2
   |ex => exact absurd hlt (hr0 rfl ad n c rfl)
   |tok k => exact hI.tokslot k ad n c sz q c0 hr2 hlt h0
  ·intro j j' ad n c sz ad' n' c' sz' hj hj' hlt hlt' hab
   obtain ⟨r, d, hr0, hr1, hr2, hp⟩ := horig j _ sz hj
   obtain ⟨r', d', hr0', hr1', hr2', hp'⟩ := horig j' _ sz' hj'
   cases r with
   |no => exact absurd rfl hr1.1
   |old => exact absurd rfl hr1.2
   |ex => exact absurd hlt (hr0 rfl ad n c rfl)
   |tok k =>
    cases r' with
    |no => exact absurd rfl hr1'.1
    |old => exact absurd rfl hr1'.2
    |ex => exact absurd hlt' (hr0' rfl ad' n' c' rfl)
    |tok k' =>
     have hkk := hI.toktok k k' ad n c sz ad' n' c' sz' hr2 hr2' hlt hlt' hab
     subst hkk
     rcases hp with ⟨g1, b1, g2, g3⟩ | ⟨g1, cs1, b1, g2, g3, g4⟩
     ·rcases hp' with ⟨g1', b1', g2', g3'⟩ | ⟨g1', cs1', b1', g2', g3', g4'⟩
      ·exact top_unique hn1 g2 g2' (g3 k rfl) (g3' k rfl)
      ·exact absurd rfl (hn3 k (top_mem g2 (g3 k rfl)) k (memTok_mem g2' g3' (g4' k rfl)))
     ·rcases hp' with ⟨g1', b1', g2', g3'⟩ | ⟨g1', cs1', b1', g2', g3', g4'⟩
      ·exact absurd rfl (hn3 k (top_mem g2' (g3' k rfl)) k (memTok_mem g2 g3 (g4 k rfl)))
      ·obtain ⟨e1, e2⟩ := mem_unique hn2 g2 g2' g3 g3' (g4 k rfl) (g4' k rfl)
       omega
 refine ⟨x', hI', hkeep 0 hT ?_, hdef⟩
 intro i n ks rows r v hi hv hr
 have hlt : i < t.length := (List.getElem?_eq_some_iff.1 hi).1
 simp only [x', Nat.zero_add]
 rw [if_pos (by omega)]
 have : a.tmps.getD i undef = v := by rw [Array.getElem?_toList] at hv; rw [Array.getD_eq_getD_getElem?, hv]; rfl
 unfold heldT
 rw [hi, this]
 cases r with
 |no => cases hr
 |old => cases hr
 |ex => simp only [Right.held] at hr; simp only [hr]
 |tok k => rfl

theorem norm_sound {tl ml : List Nat} {s s' : St} {x : X} {w : World} {a : Act} (hs : StOk e x w s a) (h : norm tl ml s = some s') : ∃ x', StOk e x' w s' a := by
 unfold norm at h
 simp only at h
 split at h
 ·rename_i hc
  cases h
  simp only [Bool.and_eq_true, Nat.ble_eq] at hc
  refine retok_sound (x := x) ⟨?_, ?_, hs.defers⟩ hc.1.1 hc.1.2 hc.2
  ·refine hs.inv.forget (p := deadM ml s.m) (ks := []) (Ext.refl _ _ _) rfl (fun _ _ h => h) (fun _ _ => rfl) (fun _ _ => rfl) ?_ hs.inv.tok hs.inv.tokslot hs.inv.toktok
   intro k cs hk
   rw [lookup_scrubM, lookup_keepM] at hk
   obtain ⟨c0, h0, h1⟩ := Option.map_eq_some_iff.1 hk
   split at h0
   ·rename_i hm
    exact ⟨deadM_mem ml s.m k hm, c0, h0, h1.symm⟩
   ·cases h0
  ·exact (hs.tmps.keep tl 0).scrub (Ext.refl _ _ _)
 ·cases h

theorem loop_sound {tl ml : List Nat} {q : Nat} {c : Code} {body : (Ex → St → Option R) → St → Option R}
  (hbody : ∀ (K : Ex → St → Option R) (Q : Exit → Act → World → Prop), KOk e K res Q → ∀ s x w a, StOk e x w s a → body K s = some res → c.wp e.P Q a w)
  {K : Ex → St → Option R} {Q : Exit → Act → World → Prop} (hK : KOk e K res Q) (n : Nat) {s : St} {x : X} {w : World} {a : Act} (hs : StOk e x w s a) (h : loopE q tl ml body n K s = some res) : (Code.loop c).wp e.P Q a w := by
 refine wp_loop_ghost (fun n a w => ∃ s x, StOk e x w s a ∧ loopE q tl ml body n K s = some res) n ⟨s, x, hs, h⟩ ?_
 rintro n a w ⟨s, x, hs, h⟩
 cases n with
 |zero => simp [loopE] at h
 |succ n =>
  simp only [loopE] at h
  refine hbody _ _ ?_ s x w a hs h
  intro ex E s' x' w' a' hk hs' hex
  cases hex with
  |normal =>
   simp only at hk
   split at hk
   ·rename_i s'' hn
    obtain ⟨x'', hs''⟩ := norm_sound hs' hn
    exact ⟨n, Nat.lt_succ_self n, s'', x'', hs'', hk⟩
   ·cases hk
  |exit id => exact hK _ _ s' x' w' a' hk hs' (.exit id)
  |ret => exact hK _ _ s' x' w' a' hk hs' .ret
  |pan v u hr => exact hK _ _ s' x' w' a' hk hs' (.pan v u hr)

theorem evB {x : X} {w : World} {s : St} {a : Act} (hs : StOk e x w s a) {c : Operand} {b : Bool} (h : evT e.P s.t 0 c = some (.dv (.val (.bool b)))) : a.eval c = .bool b := Rep.val (evT_rep hs.tmps h)

theorem den_sound {Φ : Orc} (hΦ : OSound e.P Φ)
  (hdraw : ∀ (id : Nat) (ops : Array Oper) (K : Ex → St → Option R) (Q : Exit → Act → World → Prop), KOk e K res Q → ∀ s x w a, StOk e x w s a → regA e.P Φ (fun v s => K (.pan v) s) ops.toList s (fun s => K .normal s) = some res → (Code.region id ops true).wp e.P Q a w)
  (lv : Live) (hlv : e.L = [] ∨ ∀ id, prep lv id = []) (n : Nat) : ∀ (c : Code) (K : Ex → St → Option R) (Q : Exit → Act → World → Prop), KOk e K res Q → ∀ s x w a, StOk e x w s a → den e.P Φ lv n c K s = some res → c.wp e.P Q a w := by
 intro c
 induction c with
 |skip => intro K Q hK s x w a hs h; exact Go.wp_skip (hK _ _ s x w a h hs .normal)
 |region id ops draw =>
  intro K Q hK s x w a hs h
  simp only [den, St.force_eq] at h
  obtain ⟨x, s, hs, h⟩ := pre_sound (hlv.elim .inl fun h => .inr (h id)) hs h
  cases draw with
  |false => exact reg_code hΦ hlv hK hs h
  |true =>
   exact hdraw id ops K Q hK s x w a hs h
 |seq c d ihc ihd =>
  intro K Q hK s x w a hs h
  simp only [den] at h
  refine Go.wp_seq (ihc _ _ ?_ s x w a hs h)
  intro ex E s' x' w' a' hk hs' hex
  cases hex with
  |normal => exact ihd K Q hK s' x' w' a' hs' hk
  |exit id => exact hK _ _ s' x' w' a' hk hs' (.exit id)
  |ret => exact hK _ _ s' x' w' a' hk hs' .ret
  |pan v u hr => exact hK _ _ s' x' w' a' hk hs' (.pan v u hr)
 |cond c d f ihd ihf =>
  intro K Q hK s x w a hs h
  simp only [den] at h
  split at h
  ·rename_i b hb
   have hc := evB hs hb
   cases b with
   |true => exact wp_cond_true hc (ihd K Q hK s x w a hs h)
   |false => exact wp_cond_false hc (ihf K Q hK s x w a hs h)
  ·cases h
 |block id c ih =>
  intro K Q hK s x w a hs h
  simp only [den] at h
  refine wp_block (ih _ _ ?_ s x w a hs h)
  intro ex E s' x' w' a' hk hs' hex
  cases hex with
  |normal => exact hK _ _ s' x' w' a' hk hs' .normal
  |exit j =>
   simp only [Exit.inBlock]
   simp only [beq_eq] at hk
   by_cases hj : j = id
   ·rw [if_pos hj] at hk ⊢; exact hK _ _ s' x' w' a' hk hs' .normal
   ·rw [if_neg hj] at hk ⊢; exact hK _ _ s' x' w' a' hk hs' (.exit j)
  |ret => exact hK _ _ s' x' w' a' hk hs' .ret
  |pan v u hr => exact hK _ _ s' x' w' a' hk hs' (.pan v u hr)
 |loop c ih =>
  intro K Q hK s x w a hs h
  simp only [den] at h
  split at h
  ·rename_i tl ml hlv
   split at h
   ·rename_i s' hn
    obtain ⟨x', hs'⟩ := norm_sound hs hn
    exact loop_sound (fun K Q hK s x w a hs h => ih K Q hK s x w a hs h) hK n hs' h
   ·cases h
  ·cases h
 |exit id => intro K Q hK s x w a hs h; exact wp_exit (hK _ _ s x w a h hs (.exit id))
 |ret =>
  intro K Q hK s x w a hs h
  simp only [den] at h
  obtain ⟨x, s, hs, h⟩ := pre_sound (hlv.elim .inl fun h => .inr (h 999998)) hs h
  exact wp_ret (hK _ _ s x w a h hs .ret)
 |rangeFunc => intro K Q hK s x w a hs h; simp [den] at h
 |scope c ih =>
  intro K Q hK s x w a hs h
  simp only [den] at h
  refine wp_scope_straight (ih K _ ?_ s x w a hs h)
  intro ex E s' x' w' a' hk hs' hex
  have := hK _ _ s' x' w' a' hk hs' hex
  cases hex with
  |normal => exact this
  |exit j => exact this
  |ret => exact this
  |pan v u hr => exact this
 |label l => intro K Q hK s x w a hs h; exact Go.wp_label (hK _ _ s x w a h hs .normal)
 |goto => intro K Q hK s x w a hs h; simp [den] at h
 |refuse => intro K Q hK s x w a hs h; simp [den] at h
end Go.Den
namespace Go.Den
variable {e : Env} {R : Type} {res : R}

theorem Inv.bare {x : X} {w : World} {m m' : Mem} (h : Inv e x w m) (tk' : Nat → Option (Value × List Kd))
  (hm : ∀ k cs, lookup m' k = some cs → ∃ c0, lookup m k = some c0 ∧ cs = AV.bareL c0)
  (htok : ∀ k v sz, tk' k = some (v, sz) → TokOk e x w v sz)
  (htokslot : ∀ k a n c sz j cs, tk' k = some (.slice (some a) n c, sz) → 0 < c → lookup m j = some cs → x.loc j ≠ some a.block)
  (htoktok : ∀ k k' a n c sz a' n' c' sz', tk' k = some (.slice (some a) n c, sz) → tk' k' = some (.slice (some a') n' c', sz') → 0 < c → 0 < c' → a.block = a'.block → k = k') :
  Inv e { x with tk := tk' } w m' where
 sub := h.sub
 slot k cs hk := by
  obtain ⟨c0, h0, rfl⟩ := hm k cs hk
  obtain ⟨b, ty, arr, h1, h2, h3, h4, h5⟩ := h.slot k c0 h0
  exact ⟨b, ty, arr, h1, h2, by rw [objOf_congr (isMp_bare c0)]; exact h3, h4.bare (x := x) (x' := { x with tk := tk' }) rfl ⟨rfl, rfl, rfl⟩, h5⟩
 inj k k' cs cs' b hk hk' hb hb' := by
  obtain ⟨c0, h0, _⟩ := hm k cs hk
  obtain ⟨c1, h1, _⟩ := hm k' cs' hk'
  exact h.inj k k' c0 c1 b h0 h1 hb hb'
 tok := htok
 tokslot k a n c sz j cs hk hn hj hl := by
  obtain ⟨c0, h0, _⟩ := hm j cs hj
  exact htokslot k a n c sz j c0 hk hn h0 hl
 toktok := htoktok
 os := h.os
 tape := h.tape
 output := h.output
 size := h.size
 old := h.old
 mono := h.mono
 new := h.new
 ext := h.ext
 low := h.low
 glob := h.glob
 more := h.more.step (fun k b cs hk hb => by
  obtain ⟨c0, h0, hc⟩ := hm k cs hk
  exact ⟨c0, h0, hb, rfl, fun hv => virgin_bare (hc ▸ hv), fun hv => by rw [hc, isMp_bare] at hv; exact hv⟩) (fun b arr ty hb => ⟨arr, hb, Nat.le_refl _⟩) (fun _ _ => rfl) rfl (Nat.le_refl _)

theorem results_held {avs : List AV} {vs : List Value} {m m' : Mem} {x : X} {w : World} (hI : Inv e x w m) (hT : RepL x avs vs) (hn : nodup (topToks avs) = true)
  (hm : ∀ k cs, lookup m' k = some cs → ∃ c0, lookup m k = some c0 ∧ cs = AV.bareL c0) :
  ∃ tk', Inv e { x with tk := tk' } w m' ∧ RepL { x with tk := tk' } (retokL 0 avs) vs := by
 have hn1 := nodup_iff hn
 have hfrom : ∀ j v sz, heldT avs ⟨vs⟩ j = some (v, sz) → ∃ r d, (r = .ex → ∀ a n c, v = .slice (some a) n c → ¬ 0 < c) ∧ (r ≠ .no ∧ r ≠ .old) ∧ RtOk x r d v sz ∧ ∃ b, avs[j]? = some b ∧ ∀ k, r = .tok k → k ∈ b.topTok := by
  intro j v sz h
  unfold heldT at h
  split at h
  ·rename_i n ks rows hj
   obtain ⟨u, hu, hr⟩ := hT.get hj
   have : (⟨vs⟩ : Array Value).getD j undef = u := by rw [Array.getD_eq_getD_getElem?]; simp [hu]
   rw [this] at h
   split at h
   ·rename_i he
    cases h
    cases hr with
    |sl _ _ _ _ _ hd hr => exact ⟨.ex, _, ex_room hd hr he, by simp, hr, _, hj, fun k hk => by cases hk⟩
   ·cases h
  ·rename_i n ks rows k hj
   obtain ⟨u, hu, hr⟩ := hT.get hj
   have : (⟨vs⟩ : Array Value).getD j undef = u := by rw [Array.getD_eq_getD_getElem?]; simp [hu]
   rw [this] at h
   cases h
   cases hr with
   |sl _ _ _ _ _ _ hr => exact ⟨.tok k, _, fun h => (by cases h), by simp, hr, _, hj, fun q hq => by cases hq; simp [AV.topTok, Right.toks]⟩
  ·cases h
 refine ⟨heldT avs ⟨vs⟩, hI.bare _ hm ?_ ?_ ?_, retokL_rep (x := x) (x' := { x with tk := heldT avs ⟨vs⟩ }) rfl ⟨rfl, rfl, rfl⟩ hT 0 ?_⟩
 ·intro j v sz hj ad n c hv hlt
  obtain ⟨r, d, hr0, hr1, hr2, _⟩ := hfrom j v sz hj
  cases r with
  |no => exact absurd rfl hr1.1
  |old => exact absurd rfl hr1.2
  |ex => exact absurd hlt (hr0 rfl ad n c hv)
  |tok k => exact hI.tok k v sz hr2 ad n c hv hlt
 ·intro j ad n c sz q cs hj hlt hq
  obtain ⟨r, d, hr0, hr1, hr2, _⟩ := hfrom j _ sz hj
  cases r with
  |no => exact absurd rfl hr1.1
  |old => exact absurd rfl hr1.2
  |ex => exact absurd hlt (hr0 rfl ad n c rfl)
  |tok k => exact hI.tokslot k ad n c sz q cs hr2 hlt hq
 ·intro j j' ad n c sz ad' n' c' sz' hj hj' hlt hlt' hab
  obtain ⟨r, d, hr0, hr1, hr2, b, hb, hb2⟩ := hfrom j _ sz hj
  obtain ⟨r', d', hr0', hr1', hr2', b', hb', hb2'⟩ := hfrom j' _ sz' hj'
  cases r with
  |no => exact absurd rfl hr1.1
  |old => exact absurd rfl hr1.2
  |ex => exact absurd hlt (hr0 rfl ad n c rfl)
  |tok k =>
   cases r' with
   |no => exact absurd rfl hr1'.1
   |old => exact absurd rfl hr1'.2
   |ex => exact absurd hlt' (hr0' rfl ad' n' c' rfl)
   |tok k' =>
    have hkk := hI.toktok k k' ad n c sz ad' n' c' sz' hr2 hr2' hlt hlt' hab
    subst hkk
    exact top_unique hn1 hb hb' (hb2 k rfl) (hb2' k rfl)
 ·intro i n ks rows r v hi hv hr
  simp only [Nat.zero_add]
  have : (⟨vs⟩ : Array Value).getD i undef = v := by rw [Array.getD_eq_getD_getElem?]; simp [hv]
  unfold heldT
  rw [hi, this]
  cases r with
  |no => cases hr
  |old => cases hr
  |ex => simp only [Right.held] at hr; simp only [hr]
  |tok k => rfl

theorem extOf_get {m : Mem} : ∀ {ext : List (List AV)} {i : Nat} {r : List (List AV)}, extOf m i ext = some r → r.length = ext.length ∧ ∀ (q : Nat) (cs : List AV), r[q]? = some cs → ∃ c0, lookup m (i + q) = some c0 ∧ cs = AV.bareL c0
 |[], i, r, h => by simp only [extOf, Option.some.injEq] at h; subst h; simp
 |c :: ext, i, r, h => by
  simp only [extOf] at h
  split at h
  ·rename_i cs hcs
   split at h
   ·rename_i r0 hr0
    cases h
    obtain ⟨h1, h2⟩ := extOf_get hr0
    refine ⟨by simp [h1], ?_⟩
    intro q cs' hq
    cases q with
    |zero => simp at hq; subst hq; exact ⟨cs, hcs, rfl⟩
    |succ q =>
     simp at hq
     obtain ⟨c0, h3, h4⟩ := h2 q cs' hq
     exact ⟨c0, by rw [← h3]; congr 1; omega, h4⟩
   ·cases h
  ·cases h
theorem ext_bare {m : Mem} {ext r : List (List AV)} (h : extOf m 1000 ext = some r) : ∀ k cs, lookup (zipExt 1000 r) k = some cs → ∃ c0, lookup m k = some c0 ∧ cs = AV.bareL c0 := by
 intro k cs hk
 rw [lookup_zipExt] at hk
 split at hk
 ·rename_i hle
  obtain ⟨q, rfl⟩ : ∃ q, k = 1000 + q := ⟨k - 1000, by omega⟩
  rw [Nat.add_sub_cancel_left] at hk
  exact (extOf_get h).2 q cs hk
 ·cases hk

theorem res_sound {P : Program} (hP : e.P = P) {x : X} {w : World} {s : St} {a : Act} (hs : StOk e x w s a) :
  ∀ {l : List ResultVar} {k : List AV → Option R}, resE P s l k = some res → ∃ avs vs, k avs = some res ∧ RepL x avs vs ∧
   (l.mapM (fun | .tmp t => pure (a.tmps.getD t undef) | .cell b t => do loadVar t (← asAddr (a.tmps.getD b undef)) : ResultVar → Sem Value)).run P w = .ok vs w
 |[], k, h => ⟨[], [], h, .nil, by simp⟩
 | .tmp t :: l, k, h => by
  simp only [resE] at h
  split at h
  ·rename_i v hv
   obtain ⟨u, hu, hr⟩ := hs.tmps.get hv
   obtain ⟨avs, vs, h1, h2, h3⟩ := res_sound hP hs h
   refine ⟨v :: avs, u :: vs, h1, .cons _ _ _ _ hr h2, ?_⟩
   have : a.tmps.getD t undef = u := by rw [Array.getElem?_toList] at hu; rw [Array.getD_eq_getD_getElem?, hu]; rfl
   simp only [List.mapM_cons, Sem.run_bind, Sem.run_pure, Result.andThen_ok, h3, this]
  ·cases h
 | .cell b t :: l, k, h => by
  subst hP
  simp only [resE] at h
  split at h
  ·rename_i v hv
   obtain ⟨u, hu, hr⟩ := hs.tmps.get hv
   obtain ⟨r, z, h1, h2, h3⟩ := load_sound hs.inv hr h
   obtain ⟨avs, vs, h4, h5, h6⟩ := res_sound rfl hs h1
   refine ⟨r :: avs, z :: vs, h4, .cons _ _ _ _ h2 h5, ?_⟩
   have : a.tmps.getD b undef = u := by rw [Array.getElem?_toList] at hu; rw [Array.getD_eq_getD_getElem?, hu]; rfl
   have hload : (do loadVar t (← asAddr u) : Sem Value).run e.P w = .ok z w := by
    simp only [Instr.loadAt] at h3
    cases u with
    |pointer p =>
     cases p with
     |some ad => simpa [Instr.sureAddr, asAddr] using h3
     |none => simp [Instr.sureAddr, stuck] at h3
    |_ => simp [Instr.sureAddr, stuck] at h3
   simp only [List.mapM_cons, Sem.run_bind] at hload ⊢
   rw [this, hload]
   simp only [Result.andThen_ok, h6, Sem.run_pure]
  ·cases h

theorem youngL_length : ∀ l : List AV, (youngL l).length = l.length
 |[] => rfl
 |a :: l => by simp [youngL, youngL_length l]
theorem Rep.young {x : X} {a : AV} {v : Value} (h : Rep x a v) : Rep x a.young v := by
 unfold AV.young
 split
 ·cases h with
  |sl _ _ _ _ _ h1 _ => exact .sl _ _ _ _ _ h1 trivial
 ·exact h
theorem RepL.young {x : X} : ∀ {l : List AV} {vs : List Value}, RepL x l vs → RepL x (youngL l) vs
 |_, _, .nil => .nil
 |_, _, .cons a v l vs ha hl => .cons _ _ _ _ ha.young (RepL.young hl)
theorem canon_sound {avs : List AV} {vs : List Value} {m m' : Mem} {x : X} {w : World} {keep : Bool} {r : AV} (hI : Inv e x w m) (hT : RepL x avs vs) (h : canon keep avs = some r)
  (hm : ∀ k cs, lookup m' k = some cs → ∃ c0, lookup m k = some c0 ∧ cs = AV.bareL c0) :
  ∃ x', Inv e x' w m' ∧ Rep x' r (if h : (⟨vs⟩ : Array Value).size = 1 then (⟨vs⟩ : Array Value)[0] else .tuple ⟨vs⟩) := by
 have hfin : ∀ (x' : X) (l : List AV), RepL x' l vs → l.length = avs.length → ∀ r, (match l with | [v] => some v | l => some (.tup l)) = some r → Rep x' r (if h : (⟨vs⟩ : Array Value).size = 1 then (⟨vs⟩ : Array Value)[0] else .tuple ⟨vs⟩) := by
  intro x' l hl _ r hr
  have hlen := hl.length
  split at hr
  ·rename_i v
   cases hr
   cases hl with
   |cons _ u _ vs2 h1 h2 =>
   cases h2
   simpa using h1
  ·rename_i hne
   cases hr
   have : ¬ (⟨vs⟩ : Array Value).size = 1 := by
    intro h1
    have : l.length = 1 := by rw [hlen]; simpa using h1
    obtain ⟨v, rfl⟩ := List.length_eq_one_iff.1 this
    exact hne v rfl
   rw [dif_neg this]
   exact .tup _ _ hl
 unfold canon at h
 split at h
 ·split at h
  ·rename_i cs
   split at h
   ·rename_i hn
    cases h
    cases hT with
    |cons _ v _ vs2 h1 h2 =>
    cases h2
    cases h1 with
    |agg _ us h1 =>
    obtain ⟨tk', h3, h4⟩ := results_held hI h1.young hn hm
    exact ⟨_, h3, by simpa using Rep.agg _ _ h4⟩
   ·cases h
  ·split at h
   ·rename_i hn
    have hT := hT.young
    obtain ⟨tk', h1, h2⟩ := results_held hI hT hn hm
    refine ⟨_, h1, hfin _ (retokL 0 (youngL avs)) h2 (by rw [h2.length, ← hT.length]; exact youngL_length avs) r ?_⟩
    generalize youngL avs = avs' at h
    split at h
    ·simpa [retokL] using h
    ·rename_i hne
     split
     ·rename_i v hv
      cases avs' with
      |nil => simp [retokL] at hv
      |cons b t =>
       cases t with
       |nil => exact absurd rfl (hne b)
       |cons c t => simp [retokL] at hv
     ·exact h
   ·cases h
 ·refine ⟨{ x with tk := fun _ => none }, hI.bare _ hm (fun _ _ _ h => by cases h) (fun _ _ _ _ _ _ _ h => by cases h) (fun _ _ _ _ _ _ _ _ _ _ h => by cases h), hfin _ (AV.bareL avs) (hT.bare (x := x) (x' := { x with tk := fun _ => none }) rfl ⟨rfl, rfl, rfl⟩) (by rw [(hT.bare (x := x) (x' := { x with tk := fun _ => none }) rfl ⟨rfl, rfl, rfl⟩).length, hT.length]) r ?_⟩
  split at h
  ·simpa [AV.bareL] using h
  ·rename_i hne
   split
   ·rename_i v hv
    cases avs with
    |nil => simp [AV.bareL] at hv
    |cons b t =>
     cases t with
     |nil => exact absurd rfl (hne b)
     |cons c t => simp [AV.bareL] at hv
   ·exact h

theorem canon_bare {avs : List AV} {vs : List Value} {x : X} {r : AV} (hT : RepL x avs vs) (h : canon false avs = some r) (tk' : Nat → Option (Value × List Kd)) : Rep { x with tk := tk' } r (if h : (⟨vs⟩ : Array Value).size = 1 then (⟨vs⟩ : Array Value)[0] else .tuple ⟨vs⟩) := by
 have hB : RepL { x with tk := tk' } (AV.bareL avs) vs := hT.bare (x := x) (x' := { x with tk := tk' }) rfl ⟨rfl, rfl, rfl⟩
 unfold canon at h
 simp only at h
 split at h
 ·rename_i v
  cases h
  cases hB with
  |cons _ u _ vs2 h1 h2 =>
  cases h2
  simpa using h1
 ·rename_i hne
  cases h
  have : ¬ (⟨vs⟩ : Array Value).size = 1 := by
   intro h1
   have : avs.length = 1 := by rw [hT.length]; simpa using h1
   obtain ⟨v, rfl⟩ := List.length_eq_one_iff.1 this
   exact hne v rfl
  rw [dif_neg this]
  exact .tup _ _ hB
theorem exit_sound {avs : List AV} {vs : List Value} {m : Mem} {x : X} {w : World} {keep : Bool} {r : AV} {ext ex : List (List AV)} (hI : Inv e x w m) (hT : RepL x avs vs) (h : canon (keep && !lentX ext) avs = some r) (hex : extX m ext = some ex) :
  ex.length = ext.length ∧ ∃ x', Inv e x' w (zipExt 1000 ex) ∧ Rep x' r (if h : (⟨vs⟩ : Array Value).size = 1 then (⟨vs⟩ : Array Value)[0] else .tuple ⟨vs⟩) := by
 unfold extX at hex
 cases hl : lentX ext with
 |false =>
  simp only [hl] at hex
  exact ⟨(extOf_get hex).1, canon_sound hI hT h (ext_bare hex)⟩
 |true =>
  simp only [hl] at hex
  split at hex
  ·rename_i c e0 cs hlk
   split at hex
   ·rename_i r0 hc hr0
    cases hex
    rw [Bool.and_eq_true] at hc
    have hex0 : extOf m 1000 (c :: e0) = some (AV.bareL cs :: r0) := by simp only [extOf, hlk, hr0]
    have hb := ext_bare hex0
    have hlen := (extOf_get hex0).1
    obtain ⟨b, ty, arr, p1, p2, p3, p4, p5⟩ := hI.slot 1000 cs hlk
    obtain ⟨tk', h3, h4⟩ := results_held hI (p4.plain hc.1) hc.2 hb
    refine ⟨by simpa using hlen, { x with tk := tk' }, h3.refill ?_, ?_⟩
    ·intro k cs' hk
     rw [lookup_zipExt] at hk
     split at hk
     ·rename_i hle
      by_cases hk0 : k = 1000
      ·subst hk0
       simp only [Nat.sub_self, List.getElem?_cons_zero, Option.some.injEq] at hk
       subst hk
       refine ⟨AV.bareL cs, by rw [lookup_zipExt, if_pos (Nat.le_refl _)]; simp, ⟨fun hv => ?_, by rw [isMp_retok, isMp_bare]⟩, fun b' ty' arr' q1 q2 _ => ?_⟩
       ·obtain ⟨r1, v1, rfl⟩ := virgin_iff.1 (virgin_retok hv)
        rfl
       ·have q1 : x.loc 1000 = some b' := q1
        rw [p1] at q1; cases q1
        rw [objOf_congr (isMp_bare cs)] at q2
        have hmp := plain_notMp hc.1
        rw [objOf_cells hmp] at q2 p3
        rw [p3] at q2; cases q2
        exact .inl h4
      ·obtain ⟨q, rfl⟩ : ∃ q, k = 1000 + (q + 1) := ⟨k - 1001, by omega⟩
       rw [Nat.add_sub_cancel_left] at hk
       exact ⟨cs', by rw [lookup_zipExt, if_pos hle, Nat.add_sub_cancel_left]; simpa using hk, ⟨id, rfl⟩, fun _ _ _ _ _ hc => hc⟩
     ·cases hk
    ·have hbare : canon false avs = some r := by rw [hl] at h; simpa using h
     exact canon_bare hT hbare tk'
   ·cases hex
  ·cases hex
theorem anyPrep_none {lv : Live} (h : anyPrep lv = false) (id : Nat) : prep lv id = [] := by
 have : live lv (1000000 + id) = none := by
  induction lv with
  |nil => rfl
  |cons z l ih =>
   obtain ⟨j, y⟩ := z
   simp only [anyPrep, Bool.or_eq_false_iff] at h
   simp only [live, beq_eq]
   have hj : j ≠ 1000000 + id := by
    rintro rfl
    have := h.1
    rw [show Nat.ble 1000000 (1000000 + id) = true by simp [Nat.ble_eq]] at this; cases this
   rw [if_neg hj]; exact ih h.2
 simp only [prep, this]
theorem fn_sound {P : Program} {Φ : Orc} (hΦ : OSound P Φ)
  (hdraw : ∀ (e : Env), e.P = P → ∀ (id : Nat) (ops : Array Oper) (K : Ex → St → Option Out) (res : Out) (Q : Exit → Act → World → Prop), KOk e K res Q → ∀ s x w a, StOk e x w s a → regA e.P Φ (fun v s => K (.pan v) s) ops.toList s (fun s => K .normal s) = some res → (Code.region id ops true).wp e.P Q a w)
  {f : FuncId} {fn : Func} (hf : P.funcs[f]? = some fn) (hname : fn.name ≠ "runtime.NumGoroutine") {lv : Live} {n : Nat} {keep : Bool} {args : List AV} {ext : List (List AV)} {out : Out}
  (h : denFn P Φ lv n fn keep args ext some = some out) : Contract P f args ext out := by
 unfold denFn at h
 split at h
 ·cases h
 ·rename_i c hc
  split at h
  ·rename_i hle
   refine .inl ⟨⟨fn, hf, by simp [hc], hname⟩, ?_⟩
   simp only [Bool.and_eq_true, Bool.not_eq_true', Bool.and_eq_false_iff] at hle
   intro w x E L vs htk hI hr
   have hlv : L = [] ∨ ∀ id, prep lv id = [] := by
    rcases hle.2 with h1 | h1
    ·exact .inl (htk h1).1
    ·exact .inr (anyPrep_none h1)
   refine calls_of_wp hf hc ?_
   refine den_sound (e := ⟨P, w, x, E, [], L⟩) hΦ (fun id ops K Q h1 => hdraw ⟨P, w, x, E, [], L⟩ rfl id ops K out Q h1) lv hlv n c _ _ ?_ _ x w _ ⟨by cases live lv 999999 with | none => exact hI | some z => exact hI.olden hI.more.M0, ?_, rfl⟩ h
   ·intro ex En s1 x1 w1 a1 hk hs1 hex
    unfold fin at hk
    cases hex with
    |exit id => simp at hk
    |pan v u hv =>
     simp only at hk
     split at hk
     ·rename_i ex hex
      cases hk
      obtain ⟨e1, x', h4, h5⟩ := exit_sound (keep := false) (r := v.bare) hs1.inv (.cons v u [] [] hv .nil) rfl hex
      exact ⟨hs1.defers, x', u, e1, rfl, h4, by simpa using h5⟩
     ·cases hk
    |normal =>
     simp only at hk
     obtain ⟨avs, us, h1, h2, h3⟩ := res_sound (e := ⟨P, w, x, E, [], L⟩) rfl hs1 hk
     split at h1
     ·rename_i r ex hr' hex
      cases h1
      obtain ⟨e1, x', h4, h5⟩ := exit_sound hs1.inv h2 hr' hex
      refine ⟨hs1.defers, _, ?_, x', _, e1, rfl, h4, h5⟩
      unfold results
      simp only [Sem.run_bind, Array.mapM_eq_mapM_toList, Sem.run_map]
      erw [h3]
      rfl
     ·cases h1
    |ret =>
     simp only at hk
     obtain ⟨avs, us, h1, h2, h3⟩ := res_sound (e := ⟨P, w, x, E, [], L⟩) rfl hs1 hk
     split at h1
     ·rename_i r ex hr' hex
      cases h1
      obtain ⟨e1, x', h4, h5⟩ := exit_sound hs1.inv h2 hr' hex
      refine ⟨hs1.defers, _, ?_, x', _, e1, rfl, h4, h5⟩
      unfold results
      simp only [Sem.run_bind, Array.mapM_eq_mapM_toList, Sem.run_map]
      erw [h3]
      rfl
     ·cases h1
   ·have h1 := hr.length
    have hgo : ∀ as : List AV, RepL x as vs → RepL x (as ++ List.replicate (fn.ntmps - args.length) .junk) (vs ++ List.replicate (fn.ntmps - vs.length) undef) := by
     intro as has
     rw [h1]; exact has.append (RepL.junks x _ undef)
    cases hl : live lv 999999 with
    |none => simpa [hl] using hgo args hr
    |some z => simpa [hl] using hgo _ (hr.olden hI.more.M0)
  ·cases h
end Go.Den
namespace Go.Den
variable {P : Program} {Φ : Orc} {R : Type}

def AlikeAt (P : Program) (t t' : List AV) (ys : List Operand) : Prop := ∀ y ∈ ys, ∀ ty, evT P t ty y = evT P t' ty y

theorem evs_congr {t t' : List AV} : ∀ {ys : List Operand} {ts : List TypeId}, AlikeAt P t t' ys → evs P t ts ys = evs P t' ts ys
 |[], ts, _ => by cases ts <;> rfl
 |y :: ys, [], h => by simp only [evs]; rw [h y (by simp), evs_congr fun z hz => h z (by simp [hz])]
 |y :: ys, t0 :: ts, h => by simp only [evs]; rw [h y (by simp), evs_congr fun z hz => h z (by simp [hz])]
theorem parts_congr {t t' : List AV} {ty : TypeId} : ∀ {ps : List (Nat × Operand)} {cs : List AV}, AlikeAt P t t' (ps.map (·.2)) → parts P ty t ps cs = parts P ty t' ps cs
 |[], cs, _ => rfl
 |(i, y) :: ps, cs, h => by
  simp only [parts]
  split
  ·rename_i off n ty' hp
   rw [h y (by simp)]
   split
   ·split
    ·split
     ·exact parts_congr fun z hz => h z (by simp only [List.map_cons, List.mem_cons]; exact .inr hz)
     ·rfl
    ·rfl
   ·rfl
  ·rfl
theorem rowsOf_congr {t t' : List AV} {el : TypeId} {ks : List Kd} : ∀ {ps : List (Nat × Operand)} {rs : Rows}, AlikeAt P t t' (ps.map (·.2)) → rowsOf P el ks t ps rs = rowsOf P el ks t' ps rs
 |[], rs, _ => rfl
 |(i, y) :: ps, rs, h => by
  simp only [rowsOf]
  rw [h y (by simp)]
  split
  ·split
   ·split
    ·exact rowsOf_congr fun z hz => h z (by simp only [List.map_cons, List.mem_cons]; exact .inr hz)
    ·rfl
   ·rfl
  ·rfl
theorem evO_congr {t t' : List AV} {y : Option Operand} (h : ∀ z, y = some z → ∀ ty, evT P t ty z = evT P t' ty z) : evO P t y = evO P t' y := by
 cases y with
 |none => rfl
 |some z => simp only [evO]; rw [h z rfl]
theorem cellsOf_congr {m m' : Mem} {qs : List Nat} : ∀ {ks : List Nat}, (∀ k ∈ ks, lookup m k = lookup m' k) → cellsOf m qs ks = cellsOf m' qs ks
 |[], _ => rfl
 |k :: ks, h => by simp only [cellsOf]; rw [h k (by simp), cellsOf_congr fun j hj => h j (by simp [hj])]
theorem catM_congr {m m' : Mem} : ∀ {ks : List Nat}, (∀ k ∈ ks, lookup m k = lookup m' k) → catM m ks = catM m' ks
 |[], _ => rfl
 |k :: ks, h => by simp only [catM]; rw [h k (by simp), catM_congr fun j hj => h j (by simp [hj])]
theorem lendOf_congr {m m' : Mem} {qs : List Nat} : ∀ {ks : List Nat} (i : Nat), (∀ k ∈ ks, lookup m k = lookup m' k) → lendOf m qs i ks = lendOf m' qs i ks
 |[], _, _ => rfl
 |k :: ks, i, h => by
  have ih := fun i => lendOf_congr (qs := qs) (ks := ks) i fun j hj => h j (by simp [hj])
  simp only [lendOf, ih]; rw [h k (by simp)]
def ptrSlot : AV → Option Nat
 | .pl j _ => some j
 | .pa j _ _ _ => some j
 |_ => none
theorem lookupC_congr {m m' : Mem} {j : Nat} (h : lookup m j = lookup m' j) : lookupC m j = lookupC m' j := by unfold lookupC; rw [h]
theorem lookupA_congr {m m' : Mem} {j : Nat} (h : lookup m j = lookup m' j) : lookupA m j = lookupA m' j := by unfold lookupA; rw [h]
theorem loadE_congr {m m' : Mem} {t : TypeId} {a : AV} {k : Eff → Option R} (h : ∀ j, ptrSlot a = some j → lookup m j = lookup m' j) : loadE P m t a k = loadE P m' t a k := by
 cases a with
 |pl j off => simp only [loadE]; rw [lookupC_congr (h j rfl)]
 |pa j ks i q => simp only [loadE]; rw [lookupA_congr (h j rfl)]
 |_ => rfl
theorem storeE_congr {m m' : Mem} {t : TypeId} {a v : AV} {k : Eff → Option R} (h : ∀ j, ptrSlot a = some j → lookup m j = lookup m' j) : storeE P m t a v k = storeE P m' t a v k := by
 unfold storeE
 cases size? P t <;> cases a <;> try rfl
 ·rename_i n j off
  cases v.cells <;> try rfl
  simp only [lookupC_congr (h j rfl)]
 ·rename_i n j ks i q
  cases v.cells <;> try rfl
  simp only [lookupA_congr (h j rfl)]

theorem lookupM_congr {m m' : Mem} {j : Nat} (h : lookup m j = lookup m' j) : lookupM m j = lookupM m' j := by unfold lookupM; rw [h]
def plSlot : AV → Option Nat
 | .pl j _ => some j
 |_ => none
theorem lookE_congr {m m' : Mem} {t : TypeId} {a y : AV} {ok : Bool} {k : Eff → Option R} (h : ∀ j, plSlot a = some j → lookup m j = lookup m' j) : lookE P m t a y ok k = lookE P m' t a y ok k := by
 unfold lookE
 cases P.underlying t with
 |none => rfl
 |some d =>
  cases d <;> try rfl
  cases a <;> try rfl
  cases y <;> try rfl
  rename_i j off d
  simp only [lookupM_congr (h j rfl)]
theorem putE_congr {m m' : Mem} {t : TypeId} {a y v : AV} {k : Eff → Option R} (h : ∀ j, plSlot a = some j → lookup m j = lookup m' j) : putE P m t a y v k = putE P m' t a y v k := by
 unfold putE
 cases P.underlying t with
 |none => rfl
 |some d =>
  cases d <;> try rfl
  cases a <;> try rfl
  cases y <;> try rfl
  rename_i j off d
  cases v.cells <;> try rfl
  simp only [lookupM_congr (h j rfl)]
theorem builtinE_congr {m m' : Mem} {d : Option Tmp} {b : Builtin} {ts : List TypeId} {args : List AV} {k : Eff → Option R} (h : ∀ j, (b = .clear ∨ b = .copy ∨ b = .append) ∧ mem j (AV.slots args) = true → lookup m j = lookup m' j) :
  builtinE P m d b ts args k = builtinE P m' d b ts args k := by
 unfold builtinE
 split <;> try rfl
 ·rename_i j ks off n c n2 ks2 rows2 r2
  have := h j ⟨.inr (.inr rfl), by simp [AV.slots, AV.slotsA, mem, beq_eq]⟩
  simp only [lookupA_congr this]
 ·rename_i j ks off n c
  have := h j ⟨.inl rfl, by simp [AV.slots, AV.slotsA, mem, beq_eq]⟩
  simp only [clearE, lookupA_congr this]
 ·rename_i j ks off n c nl ks2 rows2 r2
  have := h j ⟨.inr (.inl rfl), by simp [AV.slots, AV.slotsA, mem, beq_eq]⟩
  simp only [copyE, lookupA_congr this]

theorem deepL_congr {m m' : Mem} (ks : List Nat) : ∀ {l : List Nat}, (∀ k ∈ l, lookup m k = lookup m' k) → deepL m ks l = deepL m' ks l
 |[], _ => rfl
 |k :: l, h => by
  simp only [deepL]
  rw [h k (by simp), deepL_congr ks (l := l) fun j hj => h j (by simp [hj])]
theorem reach_congr {m m' : Mem} {ks : List Nat} (h : ∀ k ∈ reach m ks, lookup m k = lookup m' k) : reach m ks = reach m' ks := by
 unfold reach
 rw [deepL_congr ks fun k hk => h k (by unfold reach; exact mem_iff.1 (dedup_mem.2 (mem_iff.2 (by simp [hk]))))]
mutual
theorem look_congr {m m' : Mem} : ∀ (a : AV), (∀ k ∈ AV.slotsA a, lookup m k = lookup m' k) → AV.look m a = AV.look m' a
 | .dv _, _ => rfl
 | .sl _ _ _ _, _ => rfl
 | .agg cs, h => by simp only [AV.look]; rw [lookL_congr cs (by simpa only [AV.slotsA] using h)]
 | .tup _, _ => rfl
 | .pl k off, h => by simp only [AV.look]; rw [h k (by simp [AV.slotsA])]
 | .pv _ _ _, _ => rfl
 | .fn f cs, h => by simp only [AV.look]; rw [lookL_congr cs (by simpa only [AV.slotsA] using h)]
 | .ifc t v, h => by simp only [AV.look]; rw [look_congr v (by simpa only [AV.slotsA] using h)]
 | .ms _ _ _ _ _, _ => rfl
 | .pa _ _ _ _, _ => rfl
 | .arr _ _, _ => rfl
 | .junk, _ => rfl
theorem lookL_congr {m m' : Mem} : ∀ (l : List AV), (∀ k ∈ AV.slots l, lookup m k = lookup m' k) → AV.lookL m l = AV.lookL m' l
 |[], _ => rfl
 |a :: l, h => by simp only [AV.lookL]; rw [look_congr a fun k hk => h k (by simp [AV.slots, hk]), lookL_congr l fun k hk => h k (by simp [AV.slots, hk])]
end
theorem mem_reach {m : Mem} {ks : List Nat} {j : Nat} (h : j ∈ ks) : j ∈ reach m ks := by
 unfold reach; exact mem_iff.1 (dedup_mem.2 (mem_iff.2 (by simp [h])))
theorem opE_congr {t t' : List AV} {m m' : Mem} {o : Oper} {k kp : Eff → Option R} (ht : AlikeAt P t t' o.op.operands.toList) (hm : ∀ j ∈ touch P t m o, lookup m j = lookup m' j) :
  opE P Φ t m o k kp = opE P Φ t' m' o k kp := by
 have ev1 : ∀ {y : Operand} {ty : TypeId}, y ∈ o.op.operands.toList → evT P t ty y = evT P t' ty y := fun hy => ht _ hy _
 cases hop : o.op with
 |move y => simp only [opE, hop]; rw [ev1 (by simp [hop, Op.operands])]
 |assign y => simp only [opE, hop]; rw [ev1 (by simp [hop, Op.operands])]
 |pick c y z => simp only [opE, hop]; rw [ev1 (y := c) (by simp [hop, Op.operands]), ev1 (y := y) (by simp [hop, Op.operands]), ev1 (y := z) (by simp [hop, Op.operands])]
 |alloc e => simp only [opE, hop]
 |box e y => simp only [opE, hop]; rw [ev1 (y := y) (by simp [hop, Op.operands])]
 |build ty ps => simp only [opE, hop]; simp only [parts_congr (P := P) (t := t) (t' := t') (ps := ps.toList) fun z hz => ht z (by simpa [hop, Op.operands] using hz)]
 |buildSlice ty n ps =>
  simp only [opE, hop]
  simp only [rowsOf_congr (P := P) (t := t) (t' := t') (ps := ps.toList) fun z hz => ht z (by simpa [hop, Op.operands] using hz)]
 |load ty y =>
  simp only [opE, hop]
  rw [← ev1 (y := y) (by simp [hop, Op.operands])]
  split
  ·rename_i v hv
   exact loadE_congr fun j hj => hm j (by cases v <;> simp [ptrSlot] at hj <;> subst hj <;> simp [touch, hop, hv])
  ·rfl
 |store ty y z =>
  simp only [opE, hop]
  rw [← ev1 (y := y) (by simp [hop, Op.operands]), ← ev1 (y := z) (by simp [hop, Op.operands])]
  split
  ·rename_i v u hv hu
   exact storeE_congr fun j hj => hm j (by cases v <;> simp [ptrSlot] at hj <;> subst hj <;> simp [touch, hop, hv])
  ·rfl
 |nilCheck y => simp only [opE, hop]; rw [ev1 (y := y) (by simp [hop, Op.operands])]
 |binOp op ty y z u =>
  simp only [opE, hop]
  rw [ev1 (y := y) (by simp [hop, Op.operands]), ev1 (y := z) (by simp [hop, Op.operands])]
 |unOp op ty y => simp only [opE, hop]; rw [ev1 (y := y) (by simp [hop, Op.operands])]
 |convert s d y => simp only [opE, hop]; rw [ev1 (y := y) (by simp [hop, Op.operands])]
 |makeInterface ty y => simp only [opE, hop]; rw [ev1 (y := y) (by simp [hop, Op.operands])]
 |makeFunc f first caps =>
  have hc := evs_congr (P := P) (t := t) (t' := t') (ys := caps.toList) (ts := []) fun z hz => ht z (by simp [hop, Op.operands]; exact .inr (by simpa using hz))
  cases f <;> simp only [opE, hop, hc]
 |slice ty y lo hi mx =>
  simp only [opE, hop]
  rw [ev1 (y := y) (by simp [hop, Op.operands]), evO_congr (y := lo) fun z hz ty => ev1 (by subst hz; simp [hop, Op.operands]), evO_congr (y := hi) fun z hz ty => ev1 (by subst hz; simp [hop, Op.operands]),
   evO_congr (y := mx) fun z hz ty => ev1 (by subst hz; simp [hop, Op.operands])]
 |fieldAddr s y f => simp only [opE, hop]; rw [ev1 (y := y) (by simp [hop, Op.operands])]
 |field s y f => simp only [opE, hop]; rw [ev1 (y := y) (by simp [hop, Op.operands])]
 |indexAddr ty y z => simp only [opE, hop]; rw [ev1 (y := y) (by simp [hop, Op.operands]), ev1 (y := z) (by simp [hop, Op.operands])]
 |index ty y z => simp only [opE, hop]; rw [ev1 (y := y) (by simp [hop, Op.operands]), ev1 (y := z) (by simp [hop, Op.operands])]
 |typeAssert y a b c => cases c <;> simp only [opE, hop]; rw [ev1 (y := y) (by simp [hop, Op.operands])]
 |extract y i => simp only [opE, hop]; rw [ev1 (y := y) (by simp [hop, Op.operands])]
 |panic y => simp only [opE, hop]; rw [ev1 (y := y) (by simp [hop, Op.operands])]
 |call c =>
  obtain ⟨callee, ys, ts⟩ := c
  have hargs : evs P t ts.toList ys.toList = evs P t' ts.toList ys.toList := evs_congr fun z hz => ht z (by
   simp only [hop, Op.operands, Call.operands, Array.toList_append, List.mem_append]; exact .inr hz)
  cases callee with
  |value f =>
   simp only [opE, hop]
   have hf : evT P t 0 f = evT P t' 0 f := ev1 (by simp [hop, Op.operands, Call.operands])
   rw [← hf, ← hargs]
   split
   ·rename_i g caps args hg ha
    unfold callE
    simp only
    have hl : ∀ k ∈ reach m (AV.slots (args ++ caps)), lookup m k = lookup m' k := fun j hj => hm j (by simp only [touch, hop, hg, ha]; exact hj)
    rw [← lookL_congr (m := m) (m' := m') (args ++ caps) (fun j hj => hl j (mem_reach hj)), ← reach_congr hl, cellsOf_congr hl, catM_congr hl, lendOf_congr _ hl]
   ·rfl
  |invoke r n => simp only [opE, hop]
  |builtin b =>
   simp only [opE, hop]
   rw [← hargs]
   split
   ·rename_i args ha
    exact builtinE_congr fun j hj => hm j (by
     rcases hj with ⟨hb, hj⟩
     rcases hb with rfl | rfl | rfl
     ·simp only [touch, hop, ha]; exact mem_iff.1 hj
     ·simp only [touch, hop, ha]; exact mem_iff.1 hj
     ·simp only [touch, hop, ha]; exact mem_iff.1 hj)
   ·rfl
 |makeMap ty r => cases r <;> simp only [opE, hop]
 |lookup ty y z ok =>
  simp only [opE, hop]
  split
  ·rw [← ev1 (y := y) (by simp [hop, Op.operands]), ← ev1 (y := z) (by simp [hop, Op.operands])]
   split
   ·rename_i v u hv hu
    exact lookE_congr fun j hj => by
     cases v with
     |pl j' off => simp only [plSlot, Option.some.injEq] at hj; subst hj; exact hm _ (by simp [touch, hop, hv])
     |_ => cases hj
   ·rfl
  ·rfl
 |mapUpdate ty y z v' =>
  simp only [opE, hop]
  split
  ·rw [← ev1 (y := y) (by simp [hop, Op.operands]), ← ev1 (y := z) (by simp [hop, Op.operands]), ← ev1 (y := v') (by simp [hop, Op.operands])]
   split
   ·rename_i v u q hv hu hq
    exact putE_congr fun j hj => by
     cases v with
     |pl j' off => simp only [plSlot, Option.some.injEq] at hj; subst hj; exact hm _ (by simp [touch, hop, hv])
     |_ => cases hj
   ·rfl
  ·rfl
 |_ => simp only [opE, hop]

def Gives (P : Program) (t : List AV) (m : Mem) (o : Oper) (eff : Eff) : Prop :=
 ∃ Φ' : Orc, OSound P Φ' ∧ ∀ (R : Type) (k kp : Eff → Option R), opE P Φ' t m o k kp = k eff
def GivesP (P : Program) (t : List AV) (m : Mem) (o : Oper) (eff : Eff) : Prop :=
 ∃ Φ' : Orc, OSound P Φ' ∧ ∀ (R : Type) (k kp : Eff → Option R), opE P Φ' t m o k kp = kp eff
theorem osound_none (P : Program) (hs : List Nat) : OSound P ⟨fun _ _ _ _ _ => none, hs⟩ := fun _ _ _ _ _ _ h => by cases h
open Classical in
noncomputable def one (f0 : FuncId) (args0 : List AV) (ext0 : List (List AV)) (out : Out) (hs : List Nat) : Orc := ⟨fun _ f args ext k => if f = f0 ∧ args = args0 ∧ ext = ext0 then k out else none, hs⟩
theorem osound_one {P : Program} {f0 : FuncId} {args0 : List AV} {ext0 : List (List AV)} {out : Out} {hs : List Nat} (h : Contract P f0 args0 ext0 out) : OSound P (one f0 args0 ext0 out hs) := by
 intro R f args ext k r hr
 unfold one at hr
 simp only at hr
 split at hr
 ·rename_i hc; obtain ⟨rfl, rfl, rfl⟩ := hc; exact ⟨out, h, hr⟩
 ·cases hr

theorem loadE_pick {m : Mem} {t : TypeId} {a : AV} {k : Eff → Option R} {res : R} (h : loadE P m t a k = some res) : ∃ eff, k eff = some res ∧ ∀ (R : Type) (k : Eff → Option R), loadE P m t a k = k eff := by
 unfold loadE at h ⊢
 repeat' split at h
 all_goals first
  |cases h
  |exact ⟨_, h, fun R k => by first | (simp only [*, if_true, if_false]; done) | (subst_vars; simp_all)⟩
theorem storeE_pick {m : Mem} {t : TypeId} {a v : AV} {k : Eff → Option R} {res : R} (h : storeE P m t a v k = some res) : ∃ eff, k eff = some res ∧ ∀ (R : Type) (k : Eff → Option R), storeE P m t a v k = k eff := by
 unfold storeE at h ⊢
 repeat' split at h
 all_goals first
  |cases h
  |exact ⟨_, h, fun R k => by first | (simp only [*, if_true, if_false]; done) | (subst_vars; simp_all)⟩
theorem newMapE_pick {d : Option Tmp} {t : TypeId} {k : Eff → Option R} {res : R} (h : newMapE P d t k = some res) : ∃ eff, k eff = some res ∧ ∀ (R : Type) (k : Eff → Option R), newMapE P d t k = k eff := by
 unfold newMapE at h ⊢
 repeat' split at h
 all_goals first
  |cases h
  |exact ⟨_, h, fun R k => by first | (simp only [*, if_true, if_false]; done) | (subst_vars; simp_all)⟩
theorem lookE_pick {m : Mem} {t : TypeId} {a y : AV} {ok : Bool} {k : Eff → Option R} {res : R} (h : lookE P m t a y ok k = some res) : ∃ eff, k eff = some res ∧ ∀ (R : Type) (k : Eff → Option R), lookE P m t a y ok k = k eff := by
 unfold lookE at h
 split at h
 ·rename_i kt et j off key hu
  split at h
  ·rename_i ag ks rows z ag' h1 h2 h3 h4
   split at h
   ·rename_i zr h5
    split at h
    ·rename_i h6
     split at h
     ·rename_i v h7
      exact ⟨_, h, fun R k => by unfold lookE; simp only [hu, h1, h2, h3, h4, h5, h6, h7, if_true]⟩
     ·cases h
    ·cases h
   ·cases h
  ·cases h
 ·cases h
theorem putE_pick {m : Mem} {t : TypeId} {a y v : AV} {k : Eff → Option R} {res : R} (h : putE P m t a y v k = some res) : ∃ eff, k eff = some res ∧ ∀ (R : Type) (k : Eff → Option R), putE P m t a y v k = k eff := by
 unfold putE at h
 split at h
 ·rename_i kt et j off key new hu hn
  split at h
  ·rename_i ag ks rows fl h1 h2 h3
   split at h
   ·rename_i h4
    exact ⟨_, h, fun R k => by unfold putE; simp only [hu, hn, h1, h2, h3, h4, if_true]⟩
   ·cases h
  ·cases h
 ·cases h
theorem sliceE_pick {x : AV} {lo hi mx : Option AV} {k : Eff → Option R} {res : R} (h : sliceE x lo hi mx k = some res) : ∃ eff, k eff = some res ∧ ∀ (R : Type) (k : Eff → Option R), sliceE x lo hi mx k = k eff := by
 unfold sliceE at h ⊢
 repeat' split at h
 all_goals first
  |cases h
  |exact ⟨_, h, fun R k => by first | (simp only [*, if_true, if_false]; done) | (subst_vars; simp_all)⟩
theorem clearE_pick {m : Mem} {ts : List TypeId} {j : Nat} {ks : List Kd} {off n : Nat} {k : Eff → Option R} {res : R} (h : clearE P m ts j ks off n k = some res) : ∃ eff, k eff = some res ∧ ∀ (R : Type) (k : Eff → Option R), clearE P m ts j ks off n k = k eff := by
 unfold clearE at h ⊢
 repeat' split at h
 all_goals first
  |cases h
  |exact ⟨_, h, fun R k => by first | (simp only [*, if_true, if_false]; done) | (subst_vars; simp_all)⟩
theorem copyE_pick {m : Mem} {ts : List TypeId} {j : Nat} {ks : List Kd} {off n : Nat} {ks2 : List Kd} {rows2 : Rows} {k : Eff → Option R} {res : R} (h : copyE P m ts j ks off n ks2 rows2 k = some res) : ∃ eff, k eff = some res ∧ ∀ (R : Type) (k : Eff → Option R), copyE P m ts j ks off n ks2 rows2 k = k eff := by
 unfold copyE at h ⊢
 repeat' split at h
 all_goals first
  |cases h
  |exact ⟨_, h, fun R k => by first | (simp only [*, if_true, if_false]; done) | (subst_vars; simp_all)⟩
theorem builtinE_pick {m : Mem} {d : Option Tmp} {b : Builtin} {ts : List TypeId} {args : List AV} {k : Eff → Option R} {res : R} (h : builtinE P m d b ts args k = some res) : ∃ eff, k eff = some res ∧ ∀ (R : Type) (k : Eff → Option R), builtinE P m d b ts args k = k eff := by
 unfold builtinE at h ⊢
 simp only [appTokK_eq] at h ⊢
 repeat' split at h
 all_goals first
  |cases h
  |exact clearE_pick h
  |exact copyE_pick h
  |exact ⟨_, h, fun R k => by first | (simp only [*, if_true, if_false]; done) | (subst_vars; simp_all)⟩

theorem newE_pick {ks : List Nat} {d : Option Tmp} {o : Out} {k : Eff → Option R} {res : R} (h : newE ks d o k = some res) : ∃ eff, k eff = some res ∧ ∀ (R : Type) (k : Eff → Option R), newE ks d o k = k eff := by
 unfold newE at h
 split at h
 ·rename_i D hpan
  split at h
  ·rename_i hcond
   exact ⟨_, h, fun R' k' => by unfold newE; simp only [hpan, hcond]⟩
  ·cases h
 ·cases h
theorem pickIx_pick {k : AV → Option R} {i : Int} {res : R} : ∀ {cs : List AV} {j : Int}, pickIx k i j cs = some res → ∃ c, k c = some res ∧ ∀ (R' : Type) (k' : AV → Option R'), pickIx k' i j cs = k' c
 |[], j, h => by cases h
 |c :: cs, j, h => by
  unfold pickIx at h
  split at h
  ·rename_i he
   exact ⟨c, h, fun R' k' => by unfold pickIx; rw [if_pos he]⟩
  ·rename_i he
   obtain ⟨c', h1, h2⟩ := pickIx_pick h
   exact ⟨c', h1, fun R' k' => by unfold pickIx; rw [if_neg he]; exact h2 R' k'⟩
theorem lookOut_pick {out : Out} {k : Eff → Option R} {res : R} (h : lookOut k out = some res) : ∃ eff, k eff = some res ∧ ∀ (R : Type) (k : Eff → Option R), lookOut k out = k eff := by
 unfold lookOut at h
 split at h
 ·rename_i v h1 h2 h3
  exact ⟨_, h, fun R' k' => by unfold lookOut; simp only [h1, h2, h3]⟩
 ·cases h
theorem opE_pick {Φ : Orc} (hΦ : OSound P Φ) {t : List AV} {m : Mem} {o : Oper} {k kp : Eff → Option R} {res : R} (h : opE P Φ t m o k kp = some res) : (∃ eff, k eff = some res ∧ Gives P t m o eff) ∨ (∃ eff, kp eff = some res ∧ GivesP P t m o eff) := by
 unfold opE at h
 cases hop : o.op
 case call c =>
  obtain ⟨callee, ys, ts⟩ := c
  cases callee with
  |value f =>
   simp only [hop] at h
   split at h
   ·rename_i f' caps args hf ha
    unfold callE at h
    simp only at h
    split at h
    ·rename_i hlk
     obtain ⟨out, hc, hk⟩ := hΦ R _ _ _ _ _ h
     obtain ⟨eff, hke, hall⟩ := lookOut_pick hk
     refine .inl ⟨eff, hke, _, osound_one (hs := Φ.hs) hc, fun R' k' kp' => ?_⟩
     unfold opE callE
     simp only [hop, hf, ha, one, hlk, and_self, if_true]
     exact hall R' k'
    rename_i hlk
    split at h
    ·rename_i ext hx
     split at h
     ·rename_i hle
      obtain ⟨out, hc, hk⟩ := hΦ R _ _ _ _ _ h
      cases hbl : Nat.ble out.ext.length (reach m (AV.slots (args ++ caps))).length with
      |true =>
       rw [hbl] at hk
       cases hp : out.pan with
       |true =>
        rw [hp] at hk
        refine .inr ⟨_, hk, _, osound_one (hs := Φ.hs) hc, fun R' k' kp' => ?_⟩
        unfold opE callE
        simp only [hop, hf, ha, hx, one, hlk, hle, and_self, if_true, hp, hbl]
       |false =>
        rw [hp] at hk
        refine .inl ⟨_, hk, _, osound_one (hs := Φ.hs) hc, fun R' k' kp' => ?_⟩
        unfold opE callE
        simp only [hop, hf, ha, hx, one, hlk, hle, and_self, if_true, hp, hbl]
      |false =>
       rw [hbl] at hk
       obtain ⟨eff, hke, hall⟩ := newE_pick hk
       refine .inl ⟨eff, hke, _, osound_one (hs := Φ.hs) hc, fun R' k' kp' => ?_⟩
       unfold opE callE
       simp only [hop, hf, ha, hx, one, hlk, hle, and_self, if_true, hbl]
       exact hall R' k'
     ·rename_i hle
      split at h
      ·rename_i hnt
       obtain ⟨out, hc, hk⟩ := hΦ R _ _ _ _ _ h
       cases hbl : Nat.ble out.ext.length (reach m (AV.slots (args ++ caps))).length with
       |true =>
        rw [hbl] at hk
        cases hp : out.pan with
        |true =>
         rw [hp] at hk
         refine .inr ⟨_, hk, _, osound_one (hs := Φ.hs) hc, fun R' k' kp' => ?_⟩
         unfold opE callE
         simp only [hop, hf, ha, hx, one, hlk, hle, hnt, and_self, if_true, hp, hbl]
        |false =>
         rw [hp] at hk
         refine .inl ⟨_, hk, _, osound_one (hs := Φ.hs) hc, fun R' k' kp' => ?_⟩
         unfold opE callE
         simp only [hop, hf, ha, hx, one, hlk, hle, hnt, and_self, if_true, hp, hbl]
       |false =>
        rw [hbl] at hk
        cases hk
      ·cases h
    ·cases h
   ·cases h
  |invoke r n => simp only [hop] at h; cases h
  |builtin b =>
   simp only [hop] at h
   split at h
   ·rename_i args ha
    obtain ⟨eff, h1, h2⟩ := builtinE_pick h
    exact .inl ⟨eff, h1, _, osound_none P Φ.hs, fun R' k' kp' => by unfold opE; simp only [hop, ha, h2]⟩
   ·cases h
 case load ty y =>
  simp only [hop] at h
  split at h
  ·rename_i v hv
   obtain ⟨eff, h1, h2⟩ := loadE_pick h
   exact .inl ⟨eff, h1, _, osound_none P Φ.hs, fun R' k' kp' => by unfold opE; simp only [hop, hv, h2]⟩
  ·cases h
 case store ty y z =>
  simp only [hop] at h
  split at h
  ·rename_i v u hv hu
   obtain ⟨eff, h1, h2⟩ := storeE_pick h
   exact .inl ⟨eff, h1, _, osound_none P Φ.hs, fun R' k' kp' => by unfold opE; simp only [hop, hv, hu, h2]⟩
  ·cases h
 case makeMap ty r =>
  cases r with
  |none =>
   simp only [hop] at h
   obtain ⟨eff, h1, h2⟩ := newMapE_pick h
   exact .inl ⟨eff, h1, _, osound_none P Φ.hs, fun R' k' kp' => by unfold opE; simp only [hop, h2]⟩
  |some r => simp only [hop] at h; cases h
 case lookup ty y z ok =>
  simp only [hop] at h
  split at h
  ·rename_i kt et hu
   split at h
   ·rename_i v u hv hw
    obtain ⟨eff, h1, h2⟩ := lookE_pick h
    exact .inl ⟨eff, h1, _, osound_none P Φ.hs, fun R' k' kp' => by unfold opE; simp only [hop, hu, hv, hw, h2]⟩
   ·cases h
  ·cases h
 case mapUpdate ty y z v' =>
  simp only [hop] at h
  split at h
  ·rename_i kt et hu
   split at h
   ·rename_i v u q hv hw hq
    obtain ⟨eff, h1, h2⟩ := putE_pick h
    exact .inl ⟨eff, h1, _, osound_none P Φ.hs, fun R' k' kp' => by unfold opE; simp only [hop, hu, hv, hw, hq, h2]⟩
   ·cases h
  ·cases h
 case slice ty y lo hi mx =>
  simp only [hop] at h
  repeat' split at h
  all_goals first
   |cases h; done
   |obtain ⟨eff, h1, h2⟩ := sliceE_pick h
    exact .inl ⟨eff, h1, _, osound_none P Φ.hs, fun R' k' kp' => by unfold opE; first | (simp only [hop, *, if_true]; done) | (simp_all; done)⟩
 case typeAssert y t0 t1 c => 
  cases c
  ·simp only [hop] at h
   repeat' split at h
   all_goals first
    |cases h; done
    |exact .inl ⟨_, h, _, osound_none P Φ.hs, fun R k kp => by unfold opE; first | (simp only [hop, *, if_true]; done) | (subst_vars; simp_all; done)⟩
  ·simp only [hop] at h; cases h
 case index ty y z =>
  simp only [hop] at h
  repeat' split at h
  all_goals first
   |cases h; done
   |exact .inl ⟨_, h, _, osound_none P Φ.hs, fun R k kp => by unfold opE; first | (simp only [hop, *, if_true]; done) | (subst_vars; simp_all; done)⟩
   |obtain ⟨c, h1, h2⟩ := pickIx_pick h
    exact .inl ⟨_, h1, _, osound_none P Φ.hs, fun R' k' kp' => by unfold opE; simp only [hop, *, if_true]⟩
 case makeFunc f first caps =>
  cases f
  case func f =>
   simp only [hop] at h
   repeat' split at h
   all_goals first
    |cases h; done
    |exact .inl ⟨_, h, _, osound_none P Φ.hs, fun R k kp => by unfold opE; first | (simp only [hop, *, if_true]; done) | (subst_vars; simp_all; done)⟩
  all_goals simp only [hop] at h; cases h
 all_goals simp only [hop] at h
 all_goals try (repeat' split at h)
 all_goals first
  |cases h; done
  |exact .inr ⟨_, h, _, osound_none P Φ.hs, fun R k kp => by unfold opE; simp only [hop, *]; done⟩
  |exact .inl ⟨_, h, _, osound_none P Φ.hs, fun R k kp => by unfold opE; first | (simp only [hop, *, if_true, if_false]; done) | (subst_vars; simp_all; done)⟩
end Go.Den
namespace Go.Den
variable {P : Program}

theorem sub_iff {l ks : List Nat} : sub l ks = true ↔ ∀ k ∈ l, k ∈ ks := by
 induction l with
 |nil => simp [sub]
 |cons k l ih => simp [sub, mem_iff, ih]
theorem disj_iff {l ks : List Nat} : disj l ks = true ↔ ∀ k ∈ l, k ∉ ks := by
 induction l with
 |nil => simp [disj]
 |cons k l ih =>
  simp only [disj, Bool.and_eq_true, Bool.not_eq_true', ih, List.mem_cons, forall_eq_or_imp]
  rw [← mem_iff, Bool.not_eq_true]
theorem mem_false {k : Nat} {l : List Nat} : mem k l = false ↔ k ∉ l := by rw [← Bool.not_eq_true, mem_iff]

theorem cleanL_iff {p ks : List Nat} : ∀ {l : List AV}, AV.cleanL p ks l = true ↔ ∀ a ∈ l, AV.clean p ks a = true
 |[] => by simp [AV.cleanL]
 |a :: l => by simp [AV.cleanL, cleanL_iff (l := l)]

mutual
theorem scrub_clean {p ks p' ks' : List Nat} (hp : ∀ k ∈ p', k ∈ p) (hk : ∀ k ∈ ks', k ∈ ks) : ∀ {a : AV}, AV.clean p ks a = true → AV.scrub p' ks' a = a
 | .dv d, _ => by unfold AV.scrub; rfl
 | .sl n kd rows r, h => by
  unfold AV.scrub
  cases r with
  |tok k =>
   simp only [AV.clean, Bool.not_eq_true', mem_false] at h
   simp only [Right.scrub]
   rw [if_neg]
   rw [mem_iff]; exact fun hm => h (hk k hm)
  |no => rfl
  |ex => rfl
  |old => rfl
 | .agg cs, h => by unfold AV.scrub; rw [scrubL_clean hp hk (by simpa [AV.clean] using h)]
 | .tup cs, h => by unfold AV.scrub; rw [scrubL_clean hp hk (by simpa [AV.clean] using h)]
 | .pl k off, h => by
  unfold AV.scrub
  simp only [AV.clean, Bool.not_eq_true', mem_false] at h
  rw [if_neg]; rw [mem_iff]; exact fun hm => h (hp k hm)
 | .pv kd row off, _ => by unfold AV.scrub; rfl
 | .fn f cs, h => by unfold AV.scrub; rw [scrubL_clean hp hk (by simpa [AV.clean] using h)]
 | .ifc t v, h => by unfold AV.scrub; rw [scrub_clean hp hk (by simpa [AV.clean] using h)]
 | .ms k kd off n c, h => by
  unfold AV.scrub
  simp only [AV.clean, Bool.not_eq_true', mem_false] at h
  rw [if_neg]; rw [mem_iff]; exact fun hm => h (hp k hm)
 | .pa k kd i j, h => by
  unfold AV.scrub
  simp only [AV.clean, Bool.not_eq_true', mem_false] at h
  rw [if_neg]; rw [mem_iff]; exact fun hm => h (hp k hm)
 | .arr kd rows, _ => by unfold AV.scrub; rfl
 | .junk, _ => by unfold AV.scrub; rfl
theorem scrubL_clean {p ks p' ks' : List Nat} (hp : ∀ k ∈ p', k ∈ p) (hk : ∀ k ∈ ks', k ∈ ks) : ∀ {l : List AV}, AV.cleanL p ks l = true → AV.scrubL p' ks' l = l
 |[], _ => by unfold AV.scrubL; rfl
 |a :: l, h => by
  simp only [AV.cleanL, Bool.and_eq_true] at h
  unfold AV.scrubL; rw [scrub_clean hp hk h.1, scrubL_clean hp hk h.2]
end
mutual
theorem clean_scrub {p ks p' ks' : List Nat} : ∀ {a : AV}, (AV.clean p ks a = true ∨ ((∀ k ∈ p, k ∈ p') ∧ ∀ k ∈ ks, k ∈ ks')) → AV.clean p ks (AV.scrub p' ks' a) = true
 | .dv d, _ => by unfold AV.scrub; rfl
 | .sl n kd rows r, h => by
  unfold AV.scrub
  cases r with
  |tok k =>
   simp only [Right.scrub]
   split
   ·rfl
   ·rename_i hm
    rcases h with h | ⟨_, h⟩
    ·exact h
    ·simp only [AV.clean, Bool.not_eq_true', mem_false]; rw [mem_iff] at hm; exact fun h' => hm (h k h')
  |no => rfl
  |ex => rfl
  |old => rfl
 | .agg cs, h => by unfold AV.scrub; simp only [AV.clean]; exact cleanL_scrub (by simpa [AV.clean] using h)
 | .tup cs, h => by unfold AV.scrub; simp only [AV.clean]; exact cleanL_scrub (by simpa [AV.clean] using h)
 | .pl k off, h => by
  unfold AV.scrub
  split
  ·rfl
  ·rename_i hm
   rcases h with h | ⟨h, _⟩
   ·exact h
   ·simp only [AV.clean, Bool.not_eq_true', mem_false]; rw [mem_iff] at hm; exact fun h' => hm (h k h')
 | .pv kd row off, _ => by unfold AV.scrub; rfl
 | .fn f cs, h => by unfold AV.scrub; simp only [AV.clean]; exact cleanL_scrub (by simpa [AV.clean] using h)
 | .ifc t v, h => by unfold AV.scrub; simp only [AV.clean]; exact clean_scrub (by simpa [AV.clean] using h)
 | .ms k kd off n c, h => by
  unfold AV.scrub
  split
  ·rfl
  ·rename_i hm
   rcases h with h | ⟨h, _⟩
   ·exact h
   ·simp only [AV.clean, Bool.not_eq_true', mem_false]; rw [mem_iff] at hm; exact fun h' => hm (h k h')
 | .pa k kd i j, h => by
  unfold AV.scrub
  split
  ·rfl
  ·rename_i hm
   rcases h with h | ⟨h, _⟩
   ·exact h
   ·simp only [AV.clean, Bool.not_eq_true', mem_false]; rw [mem_iff] at hm; exact fun h' => hm (h k h')
 | .arr kd rows, _ => by unfold AV.scrub; rfl
 | .junk, _ => by unfold AV.scrub; rfl
theorem cleanL_scrub {p ks p' ks' : List Nat} : ∀ {l : List AV}, (AV.cleanL p ks l = true ∨ ((∀ k ∈ p, k ∈ p') ∧ ∀ k ∈ ks, k ∈ ks')) → AV.cleanL p ks (AV.scrubL p' ks' l) = true
 |[], _ => by unfold AV.scrubL; rfl
 |a :: l, h => by
  unfold AV.scrubL
  simp only [AV.cleanL, Bool.and_eq_true] at h ⊢
  exact ⟨clean_scrub (h.imp And.left id), cleanL_scrub (h.imp And.right id)⟩
end

theorem scrubL_get (p ks : List Nat) : ∀ (l : List AV) (i : Nat), (AV.scrubL p ks l)[i]? = l[i]?.map (AV.scrub p ks)
 |[], i => by unfold AV.scrubL; simp
 |a :: l, 0 => by unfold AV.scrubL; simp
 |a :: l, i + 1 => by unfold AV.scrubL; simp [scrubL_get p ks l i]

def wlook : List (Nat × List AV) → Nat → Option (List AV)
 |[], _ => none
 |(j, cs) :: l, k => match wlook l k with
  |some c => some c
  |none => if k = j then some cs else none
theorem lookup_writes : ∀ (wr : List (Nat × List AV)) (m : Mem) (k : Nat), lookup (writes m wr) k = (wlook wr k).or (lookup m k)
 |[], m, k => by simp [writes, wlook]
 |(j, cs) :: l, m, k => by
  simp only [writes, wlook]
  rw [lookup_writes l, lookup_write]
  cases h : wlook l k with
  |some c => simp
  |none =>
   by_cases hj : k = j <;> simp [hj]
theorem wlook_keys : ∀ {wr : List (Nat × List AV)} {k : Nat}, k ∉ keys wr → wlook wr k = none
 |[], k, _ => rfl
 |(j, cs) :: l, k, h => by
  simp only [keys, List.mem_cons, not_or] at h
  simp only [wlook, wlook_keys h.2, if_neg h.1]
theorem wlook_clean {p ks : List Nat} : ∀ {wr : List (Nat × List AV)} {k : Nat} {cs : List AV}, cleanW p ks wr = true → wlook wr k = some cs → mem k p = false ∧ AV.cleanL p ks cs = true
 |[], k, cs, _, h => by simp [wlook] at h
 |(j, ds) :: l, k, cs, hc, h => by
  simp only [cleanW, Bool.and_eq_true, Bool.not_eq_true'] at hc
  simp only [wlook] at h
  split at h
  ·rename_i c hw
   cases h
   exact wlook_clean hc.2 hw
  ·split at h
   ·rename_i hj; subst hj; cases h; exact hc.1
   ·cases h

def Eff.wr : Eff → List (Nat × List AV)
 | .pure _ => []
 | .full _ _ _ wr => wr
def Eff.ps : Eff → List Nat
 | .pure _ => []
 | .full _ p _ _ => p
def Eff.ks : Eff → List Nat
 | .pure _ => []
 | .full _ _ k _ => k
theorem Eff.keys_eq (e : Eff) : e.keys = Den.keys e.wr := by cases e <;> rfl
theorem Eff.clean_iff {p ks : List Nat} {e : Eff} : e.clean p ks = true ↔ e.val.clean p ks = true ∧ cleanW p ks e.wr = true := by
 cases e <;> simp [Eff.clean, Eff.val, Eff.wr, cleanW]
theorem Eff.within_iff {p ks : List Nat} {e : Eff} : e.within p ks = true ↔ (∀ k ∈ e.ps, k ∈ p) ∧ ∀ k ∈ e.ks, k ∈ ks := by
 cases e <;> simp [Eff.within, Eff.ps, Eff.ks, sub_iff]
theorem scrubM_lookup_nil (m : Mem) : scrubM [] [] m = m := scrubM_nil m
theorem apply_t (s : St) (d : Option Tmp) (e : Eff) : (s.apply d e).t = setT (AV.scrubL e.ps e.ks s.t) d e.val := by
 cases e with
 |pure r => simp only [St.apply, Eff.ps, Eff.ks, Eff.val, AV.scrubL_nil]
 |full r p ks wr => rfl
def tidyO : Option (List AV) → Option (List AV)
 |some [] => none
 |r => r
theorem lookup_tidyO (m : Mem) (k : Nat) : lookup (tidy m) k = tidyO (lookup m k) := by
 rw [lookup_tidy]; unfold tidyO
 cases lookup m k with
 |none => rfl
 |some c => cases c <;> rfl
theorem tidyO_some {o : Option (List AV)} {cs : List AV} (h : tidyO o = some cs) : o = some cs ∧ cs ≠ [] := by
 cases o with
 |none => cases h
 |some c => cases c with
  |nil => cases h
  |cons c l => cases h; exact ⟨rfl, by simp⟩
theorem tidyO_ne {o : Option (List AV)} : tidyO o ≠ some [] := fun h => (tidyO_some h).2 rfl
theorem tidyO_same {o : Option (List AV)} (h : o ≠ some []) : tidyO o = o := by
 cases o with
 |none => rfl
 |some c => cases c with
  |nil => exact absurd rfl h
  |cons c l => rfl
def Eff.at (e : Eff) (k : Nat) (l : Option (List AV)) : Option (List AV) :=
 match e with
 | .pure _ => l
 | .full _ p ks wr => tidyO ((wlook wr k).or (if mem k p then none else l.map (AV.scrubL p ks)))
theorem apply_m (s : St) (d : Option Tmp) (e : Eff) (k : Nat) : lookup (s.apply d e).m k = e.at k (lookup s.m k) := by
 cases e with
 |pure r => rfl
 |full r p ks wr =>
  simp only [St.apply, Eff.at]
  rw [lookup_tidyO, lookup_writes, lookup_scrubM, lookup_dropAll]
  by_cases h : mem k p = true <;> simp [h]
def wput (o l : Option (List AV)) : Option (List AV) :=
 match o with
 |some c => tidyO (some c)
 |none => l
theorem setT_get (t : List AV) (d : Option Tmp) (r : AV) (i : Nat) : (setT t d r)[i]? = if d = some i then t[i]?.map (fun _ => r) else t[i]? := by
 cases d with
 |none => simp [setT]
 |some d =>
  simp only [setT, Option.some.injEq]
  by_cases h : d = i
  ·subst h
   rw [if_pos rfl, List.getElem?_set]
   simp only [if_true]
   split
   ·rename_i h; rw [List.getElem?_eq_getElem h]; rfl
   ·rename_i h; rw [List.getElem?_eq_none (by omega)]; rfl
  ·rw [if_neg h, List.getElem?_set_ne h]

structure St.Same (s s' : St) : Prop where
 t : s.t = s'.t
 m : ∀ k, lookup s.m k = lookup s'.m k
theorem St.Same.refl (s : St) : s.Same s := ⟨rfl, fun _ => rfl⟩
theorem St.Same.symm {s s' : St} (h : s.Same s') : s'.Same s := ⟨h.t.symm, fun k => (h.m k).symm⟩
theorem St.Same.trans {s s' s'' : St} (h : s.Same s') (h' : s'.Same s'') : s.Same s'' := ⟨h.t.trans h'.t, fun k => (h.m k).trans (h'.m k)⟩

def El.app (el : El) (s : St) : St := s.apply el.o.dst el.eff
theorem St.Same.app {s s' : St} (h : s.Same s') (el : El) : (el.app s).Same (el.app s') := by
 refine ⟨?_, fun k => ?_⟩
 ·unfold El.app; rw [apply_t, apply_t, h.t]
 ·unfold El.app; rw [apply_m, apply_m, h.m]

structure CleanSt (p ks : List Nat) (s : St) : Prop where
 t : AV.cleanL p ks s.t = true
 m : ∀ k cs, lookup s.m k = some cs → mem k p = false ∧ AV.cleanL p ks cs = true
 ne : ∀ k, lookup s.m k ≠ some []
theorem CleanSt.same {p ks : List Nat} {s s' : St} (h : CleanSt p ks s) (hs : s.Same s') : CleanSt p ks s' :=
 ⟨by rw [← hs.t]; exact h.t, fun k cs hk => h.m k cs (by rw [hs.m]; exact hk), fun k => by rw [← hs.m]; exact h.ne k⟩
theorem cleanL_set {p ks : List Nat} {t : List AV} (h : AV.cleanL p ks t = true) (d : Option Tmp) {r : AV} (hr : r.clean p ks = true) : AV.cleanL p ks (setT t d r) = true := by
 rw [cleanL_iff] at h ⊢
 intro a ha
 cases d with
 |none => exact h a ha
 |some d =>
  rcases List.mem_or_eq_of_mem_set ha with h1 | h1
  ·exact h a h1
  ·subst h1; exact hr
theorem CleanSt.app {p ks : List Nat} {s : St} (h : CleanSt p ks s) {el : El} (he : el.eff.clean p ks = true) : CleanSt p ks (el.app s) := by
 obtain ⟨h1, h2⟩ := Eff.clean_iff.1 he
 refine ⟨?_, fun k cs hk => ?_, fun k => ?_⟩
 ·unfold El.app; rw [apply_t]; exact cleanL_set (cleanL_scrub (.inl h.t)) _ h1
 ·unfold El.app at hk
  rw [apply_m] at hk
  cases heff : el.eff with
  |pure r => rw [heff] at hk; exact h.m k cs hk
  |full r p' ks' wr =>
   rw [heff] at hk h2
   simp only [Eff.at] at hk
   obtain ⟨hk, _⟩ := tidyO_some hk
   cases hw : wlook wr k with
   |some c =>
    rw [hw] at hk
    simp only [Option.some_or, Option.some.injEq] at hk
    subst hk
    exact wlook_clean h2 hw
   |none =>
    rw [hw, Option.none_or] at hk
    split at hk
    ·cases hk
    ·obtain ⟨c0, h0, rfl⟩ := Option.map_eq_some_iff.1 hk
     obtain ⟨g1, g2⟩ := h.m k c0 h0
     exact ⟨g1, cleanL_scrub (.inl g2)⟩
 ·unfold El.app
  rw [apply_m]
  cases el.eff with
  |pure r => exact h.ne k
  |full r p' ks' wr => exact tidyO_ne
theorem app_clean {s : St} {el : El} (h : CleanSt el.p el.k s) (hw : el.eff.within el.p el.k = true) :
  (el.app s).t = setT s.t el.o.dst el.eff.val ∧ ∀ k, lookup (el.app s).m k = wput (wlook el.eff.wr k) (lookup s.m k) := by
 obtain ⟨h1, h2⟩ := Eff.within_iff.1 hw
 refine ⟨?_, fun k => ?_⟩
 ·unfold El.app; rw [apply_t, scrubL_clean h1 h2 h.t]
 ·unfold El.app; rw [apply_m]
  cases heff : el.eff with
  |pure r => rfl
  |full r p' ks' wr =>
   rw [heff] at h1 h2
   simp only [Eff.ps, Eff.ks] at h1 h2
   simp only [Eff.at, Eff.wr]
   cases hwl : wlook wr k with
   |some c => rfl
   |none =>
    simp only [Option.none_or, wput]
    cases hk : lookup s.m k with
    |none => simp only [Option.map_none, ite_self]; rfl
    |some cs =>
     obtain ⟨g1, g2⟩ := h.m k cs hk
     rw [if_neg, Option.map_some, scrubL_clean h1 h2 g2]
     ·exact tidyO_same (by rw [← hk]; exact h.ne k)
     ·rw [mem_iff]; exact fun hm => (mem_false.1 g1) (h1 k hm)

structure Swap (a b : El) : Prop where
 wa : a.eff.within a.p a.k = true
 wb : b.eff.within b.p b.k = true
 ca : a.eff.clean b.p b.k = true
 cb : b.eff.clean a.p a.k = true
 da : ∀ d, a.o.dst = some d → d ∉ b.nm
 db : ∀ d, b.o.dst = some d → d ∉ a.nm
 ne : ∀ d, a.o.dst = some d → b.o.dst ≠ some d
 ta : ∀ k ∈ a.eff.keys, k ∉ b.tch
 tb : ∀ k ∈ b.eff.keys, k ∉ a.tch
 pa : ∀ k ∈ a.p, k ∉ b.tch
 pb : ∀ k ∈ b.p, k ∉ a.tch
 kk : ∀ k ∈ a.eff.keys, k ∉ b.eff.keys
theorem dstNot_iff {d : Option Tmp} {l : List Nat} (h : dstNot d l = true) : ∀ e, d = some e → e ∉ l := by
 intro e he; subst he
 simpa [dstNot, mem_false] using h
mutual
theorem clean_nil : ∀ a : AV, AV.clean [] [] a = true
 | .dv d => rfl
 | .sl n kd rows r => by cases r <;> rfl
 | .agg cs => by simp only [AV.clean]; exact cleanL_nil cs
 | .tup cs => by simp only [AV.clean]; exact cleanL_nil cs
 | .pl k off => rfl
 | .pv kd row off => rfl
 | .fn f cs => by simp only [AV.clean]; exact cleanL_nil cs
 | .ifc t v => by simp only [AV.clean]; exact clean_nil v
 | .ms .. => rfl
 | .pa .. => rfl
 | .arr .. => rfl
 | .junk => rfl
theorem cleanL_nil : ∀ l : List AV, AV.cleanL [] [] l = true
 |[] => rfl
 |a :: l => by simp only [AV.cleanL, clean_nil a, cleanL_nil l, Bool.and_self]
end
theorem cleanW_nil : ∀ l : List (Nat × List AV), cleanW [] [] l = true
 |[] => rfl
 |(k, cs) :: l => by simp only [cleanW, mem, cleanL_nil cs, cleanW_nil l, Bool.not_false, Bool.and_self]
theorem Eff.cleanQ_eq (p ks : List Nat) (e : Eff) : e.cleanQ p ks = e.clean p ks := by
 unfold Eff.cleanQ
 split
 ·cases e with
  |pure r => simp only [Eff.clean, clean_nil]
  |full r p ks wr => simp only [Eff.clean, clean_nil, cleanW_nil, Bool.and_self]
 ·rfl
theorem Swap.of {a b : El} (h : okPair false a b = true) : Swap a b := by
 simp only [okPair, Eff.cleanQ_eq, El.blind, Bool.and_eq_true] at h
 obtain ⟨h0, ⟨⟨⟨h1, ⟨⟨h2, h3⟩, h4⟩, h4'⟩, ⟨⟨h5, h6⟩, h7⟩, h7'⟩, h8⟩, h9⟩ := h
 refine ⟨h2, h5, h0, h1, dstNot_iff h3, dstNot_iff h6, ?_, disj_iff.1 h4, disj_iff.1 h7, disj_iff.1 h4', disj_iff.1 h7', disj_iff.1 h9⟩
 intro d ha hb
 rw [ha, hb] at h8
 simp [dstNe] at h8
theorem okPair_clean {b : Bool} {x y : El} (h : okPair b x y = true) : x.eff.clean y.p y.k = true := by
 simp only [okPair, Eff.cleanQ_eq, Bool.and_eq_true] at h; exact h.1
theorem Swap.symm {a b : El} (h : Swap a b) : Swap b a :=
 ⟨h.wb, h.wa, h.cb, h.ca, h.db, h.da, fun d hb ha => h.ne d ha hb, h.tb, h.ta, h.pb, h.pa, fun k hk hk' => h.kk k hk' hk⟩
theorem setT_comm (t : List AV) {d d' : Option Tmp} (r r' : AV) (h : ∀ e, d = some e → d' ≠ some e) : setT (setT t d r) d' r' = setT (setT t d' r') d r := by
 apply List.ext_getElem?
 intro i
 simp only [setT_get]
 by_cases h1 : d = some i
 ·have h2 : d' ≠ some i := h i h1
  simp [h1, h2]
 ·by_cases h2 : d' = some i <;> simp [h1, h2]
theorem Swap.comm {a b : El} (h : Swap a b) {s : St} (ha : CleanSt a.p a.k s) (hb : CleanSt b.p b.k s) : (b.app (a.app s)).Same (a.app (b.app s)) := by
 obtain ⟨e1, e2⟩ := app_clean ha h.wa
 obtain ⟨f1, f2⟩ := app_clean hb h.wb
 obtain ⟨g1, g2⟩ := app_clean (hb.app h.ca) h.wb
 obtain ⟨i1, i2⟩ := app_clean (ha.app h.cb) h.wa
 refine ⟨?_, fun k => ?_⟩
 ·rw [g1, i1, e1, f1]; exact setT_comm _ _ _ h.ne
 ·rw [g2, i2, e2, f2]
  by_cases hk : k ∈ a.eff.keys
  ·have := h.kk k hk
   rw [Eff.keys_eq] at this
   rw [wlook_keys this]; rfl
  ·rw [Eff.keys_eq] at hk
   rw [wlook_keys hk]; rfl

structure Agree (b : El) (s s' : St) : Prop where
 t : ∀ d ∈ b.nm, s.t[d]? = s'.t[d]?
 m : ∀ k ∈ b.tch, lookup s.m k = lookup s'.m k
theorem Agree.refl (b : El) (s : St) : Agree b s s := ⟨fun _ _ => rfl, fun _ _ => rfl⟩
theorem Agree.symm {b : El} {s s' : St} (h : Agree b s s') : Agree b s' s := ⟨fun d hd => (h.t d hd).symm, fun k hk => (h.m k hk).symm⟩
theorem Agree.trans {b : El} {s s' s'' : St} (h : Agree b s s') (h' : Agree b s' s'') : Agree b s s'' := ⟨fun d hd => (h.t d hd).trans (h'.t d hd), fun k hk => (h.m k hk).trans (h'.m k hk)⟩
theorem Agree.same {b : El} {s s' : St} (h : s.Same s') : Agree b s s' := ⟨fun d _ => by rw [h.t], fun k _ => h.m k⟩
theorem Agree.app {b : El} {s s' : St} (h : Agree b s s') (el : El) : Agree b (el.app s) (el.app s') := by
 refine ⟨fun d hd => ?_, fun k hk => ?_⟩
 ·unfold El.app; rw [apply_t, apply_t, setT_get, setT_get, scrubL_get, scrubL_get, h.t d hd]
 ·unfold El.app; rw [apply_m, apply_m, h.m k hk]
theorem Swap.unseen {a b : El} (h : Swap a b) {s : St} (ha : CleanSt a.p a.k s) : Agree b (a.app s) s := by
 obtain ⟨e1, e2⟩ := app_clean ha h.wa
 refine ⟨fun d hd => ?_, fun k hk => ?_⟩
 ·rw [e1, setT_get, if_neg (fun he => h.da d he hd)]
 ·rw [e2, wlook_keys]
  ·rfl
  rw [← Eff.keys_eq]; exact fun hm => h.ta k hm hk

def stage (L : Nat → Bool) : Nat → List El → St → St
 |_, [], s => s
 |i, el :: l, s => stage L (i + 1) l (if L i then el.app s else s)
theorem stage_congr {L L' : Nat → Bool} : ∀ (l : List El) (i : Nat) (s : St), (∀ j, i ≤ j → j < i + l.length → L j = L' j) → stage L i l s = stage L' i l s
 |[], i, s, _ => rfl
 |el :: l, i, s, h => by
  simp only [stage]
  rw [h i (Nat.le_refl _) (by simp), stage_congr l (i + 1) _ fun j h1 h2 => h j (by omega) (by simp; omega)]
theorem stage_same {L : Nat → Bool} : ∀ (l : List El) (i : Nat) {s s' : St}, s.Same s' → (stage L i l s).Same (stage L i l s')
 |[], i, s, s', h => h
 |el :: l, i, s, s', h => by
  simp only [stage]
  split
  ·exact stage_same l _ (h.app el)
  ·exact stage_same l _ h

structure Fresh (l : List El) (s : St) : Prop where
 st : ∀ el ∈ l, CleanSt el.p el.k s
 pair : List.Pairwise (fun a b : El => a.eff.clean b.p b.k = true) l
theorem Fresh.tail {el : El} {l : List El} {s : St} (h : Fresh (el :: l) s) : Fresh l s := ⟨fun e he => h.st e (List.mem_cons_of_mem _ he), (List.pairwise_cons.1 h.pair).2⟩
theorem Fresh.app {el : El} {l : List El} {s : St} (h : Fresh (el :: l) s) : Fresh l (el.app s) :=
 ⟨fun e he => (h.st e (List.mem_cons_of_mem _ he)).app ((List.pairwise_cons.1 h.pair).1 e he), (List.pairwise_cons.1 h.pair).2⟩
theorem Fresh.ite {el : El} {l : List El} {s : St} (h : Fresh (el :: l) s) (b : Bool) : Fresh l (if b then el.app s else s) := by
 cases b
 ·exact h.tail
 ·exact h.app

theorem stage_behind {L : Nat → Bool} {b : El} : ∀ (l : List El) (i : Nat) (s s' : St), s'.Same (b.app s) → CleanSt b.p b.k s → Fresh l s → (∀ j el, l[j]? = some el → L (i + j) = true → Swap b el) →
  (stage L i l s').Same (b.app (stage L i l s))
 |[], i, s, s', h, _, _, _ => h
 |el :: l, i, s, s', h, hb, hf, hs => by
  simp only [stage]
  have hs' : ∀ j e, l[j]? = some e → L (i + 1 + j) = true → Swap b e := fun j e he hl => hs (j + 1) e (by simpa using he) (by rw [← hl]; congr 1; omega)
  cases hL : L i with
  |false => simp only [Bool.false_eq_true, if_false]; exact stage_behind l (i + 1) s s' h hb hf.tail hs'
  |true =>
   simp only [if_true]
   have hsw := hs 0 el rfl hL
   exact stage_behind l (i + 1) (el.app s) (el.app s') ((h.app el).trans (hsw.comm hb (hf.st el (List.mem_cons_self ..)))) (hb.app hsw.cb) hf.app hs'
theorem stage_unseen {L : Nat → Bool} {b : El} : ∀ (l : List El) (i : Nat) (s : St), Fresh l s → (∀ j el, l[j]? = some el → L (i + j) = true → Swap b el) → Agree b (stage L i l s) s
 |[], i, s, _, _ => .refl b s
 |el :: l, i, s, hf, hs => by
  simp only [stage]
  have hs' : ∀ j e, l[j]? = some e → L (i + 1 + j) = true → Swap b e := fun j e he hl => hs (j + 1) e (by simpa using he) (by rw [← hl]; congr 1; omega)
  cases hL : L i with
  |false => simp only [Bool.false_eq_true, if_false]; exact stage_unseen l (i + 1) s hf.tail hs'
  |true =>
   simp only [if_true]
   exact (stage_unseen l (i + 1) _ hf.app hs').trans ((hs 0 el rfl hL).symm.unseen (hf.st el (List.mem_cons_self ..)))

theorem stage_add {L : Nat → Bool} {b : El} {j : Nat} : ∀ (l : List El) (i : Nat) (s : St), i ≤ j → l[j - i]? = some b → L j = false → Fresh l s →
  (∀ k el, l[k]? = some el → j < i + k → L (i + k) = true → Swap b el) →
  (stage (fun k => k == j || L k) i l s).Same (b.app (stage L i l s))
 |[], i, s, _, h, _, _, _ => by simp at h
 |el :: l, i, s, hij, hb, hL, hf, hs => by
  simp only [stage]
  have hs' : ∀ k e, l[k]? = some e → j < i + 1 + k → L (i + 1 + k) = true → Swap b e := fun k e he h1 hl => hs (k + 1) e (by simpa using he) (by omega) (by rw [← hl]; congr 1; omega)
  by_cases h : i = j
  ·subst h
   simp only [Nat.sub_self, List.getElem?_cons_zero, Option.some.injEq] at hb
   subst hb
   simp only [beq_self_eq_true, Bool.true_or, if_true, hL, Bool.false_eq_true, if_false]
   rw [stage_congr (L' := L) l (i + 1) _ fun k h1 _ => by
    have : (k == i) = false := by simp; omega
    rw [this, Bool.false_or]]
   exact stage_behind l (i + 1) s (el.app s) (.refl _) (hf.st el (List.mem_cons_self ..)) hf.tail fun k e he hl => hs' k e he (by omega) hl
  ·have h2 : (i == j) = false := by simpa using h
   simp only [h2, Bool.false_or]
   refine stage_add l (i + 1) _ (by omega) ?_ hL (hf.ite _) hs'
   have : j - i = (j - (i + 1)) + 1 := by omega
   rw [this, List.getElem?_cons_succ] at hb
   exact hb
theorem stage_agree {L : Nat → Bool} {b : El} {j : Nat} : ∀ (l : List El) (i : Nat) (s s' : St), i ≤ j → l[j - i]? = some b → L j = false → Fresh l s → Fresh l s' → Agree b s s' →
  (∀ k el, l[k]? = some el → i + k < j → L (i + k) = false → Swap el b) →
  (∀ k el, l[k]? = some el → j < i + k → L (i + k) = true → Swap b el) →
  Agree b (stage L i l s) (stage (fun k => decide (k < j)) i l s')
 |[], i, s, s', _, h, _, _, _, _, _, _ => by simp at h
 |el :: l, i, s, s', hij, hb, hL, hf, hf', ha, h1, h2 => by
  simp only [stage]
  have h1' : ∀ k e, l[k]? = some e → i + 1 + k < j → L (i + 1 + k) = false → Swap e b := fun k e he g hl => h1 (k + 1) e (by simpa using he) (by omega) (by rw [← hl]; congr 1; omega)
  have h2' : ∀ k e, l[k]? = some e → j < i + 1 + k → L (i + 1 + k) = true → Swap b e := fun k e he g hl => h2 (k + 1) e (by simpa using he) (by omega) (by rw [← hl]; congr 1; omega)
  by_cases h : i = j
  ·subst h
   simp only [hL, Bool.false_eq_true, if_false, Nat.lt_irrefl, decide_false]
   have e1 : stage (fun k => decide (k < i)) (i + 1) l s' = s' := by
    clear h1 h2 h1' h2' hb hf hf' ha
    have : ∀ (l : List El) (n : Nat), i < n → stage (fun k => decide (k < i)) n l s' = s' := by
     intro l
     induction l with
     |nil => intro n _; rfl
     |cons e l ih => intro n hn; have hd : decide (n < i) = false := decide_eq_false (by omega); simp only [stage, hd, Bool.false_eq_true, if_false]; exact ih (n + 1) (by omega)
    exact this l (i + 1) (by omega)
   rw [e1]
   exact (stage_unseen l (i + 1) s hf.tail fun k e he hl => h2' k e he (by omega) hl).trans ha
  ·have hlt : i < j := by omega
   have hd : decide (i < j) = true := decide_eq_true hlt
   simp only [hd, if_true]
   have hb' : l[j - (i + 1)]? = some b := by
    have : j - i = (j - (i + 1)) + 1 := by omega
    rw [this, List.getElem?_cons_succ] at hb
    exact hb
   cases hLi : L i with
   |true =>
    simp only [if_true]
    exact stage_agree l (i + 1) _ _ (by omega) hb' hL hf.app hf'.app (ha.app el) h1' h2'
   |false =>
    simp only [Bool.false_eq_true, if_false]
    refine stage_agree l (i + 1) _ _ (by omega) hb' hL hf.tail hf'.app ?_ h1' h2'
    exact ha.trans ((h1 0 el rfl (by simpa using hlt) (by simpa using hLi)).unseen (hf'.st el (List.mem_cons_self ..))).symm

theorem close_mem {acc : List (List Nat)} : ∀ {b : List Nat} {i : Nat}, i ∈ close acc b → ∃ e ∈ b, i = e ∨ i ∈ acc.getD e []
 |[], i, h => by simp [close] at h
 |e :: b, i, h => by
  simp only [close, List.mem_cons, List.mem_append] at h
  rcases h with h | h | h
  ·exact ⟨e, by simp, .inl h⟩
  ·exact ⟨e, by simp, .inr h⟩
  ·obtain ⟨e', h1, h2⟩ := close_mem h; exact ⟨e', by simp [h1], h2⟩
theorem getD_append_left (acc : List (List Nat)) (x : List (List Nat)) (j : Nat) (h : j < acc.length) : (acc ++ x).getD j [] = acc.getD j [] := by
 simp [List.getElem?_append_left h]
theorem getD_big (acc : List (List Nat)) (j : Nat) (h : acc.length ≤ j) : acc.getD j [] = [] := by
 simp [List.getElem?_eq_none h]
theorem befs_spec (ops : List Oper) : ∀ (l : List Oper) (acc : List (List Nat)), (∀ k, l[k]? = ops[acc.length + k]?) →
  (∀ j o, j < acc.length → ops[j]? = some o → ∀ i ∈ acc.getD j [], ∃ e ∈ bindsOf o.after.toList, i = e ∨ (e < j ∧ i ∈ acc.getD e [])) →
  ∀ j o, ops[j]? = some o → ∀ i ∈ (befs l acc).getD j [], ∃ e ∈ bindsOf o.after.toList, i = e ∨ (e < j ∧ i ∈ (befs l acc).getD e [])
 |[], acc, hl, h, j, o, ho, i, hi => by
  simp only [befs] at hi ⊢
  rcases Nat.lt_or_ge j acc.length with hj | hj
  ·exact h j o hj ho i hi
  ·rw [getD_big _ _ hj] at hi; cases hi
 |o0 :: l, acc, hl, h, j, o, ho, i, hi => by
  simp only [befs] at hi ⊢
  refine befs_spec ops l _ ?_ ?_ j o ho i hi
  ·intro k; have := hl (k + 1); simp only [List.getElem?_cons_succ] at this; rw [this]; simp; congr 1; omega
  ·intro j o hj ho i hi
   simp only [List.length_append, List.length_singleton] at hj
   by_cases hj' : j < acc.length
   ·rw [getD_append_left _ _ _ hj'] at hi
    obtain ⟨e, he, h1⟩ := h j o hj' ho i hi
    refine ⟨e, he, h1.imp id fun ⟨g1, g2⟩ => ⟨g1, ?_⟩⟩
    rw [getD_append_left _ _ _ (by omega)]; exact g2
   ·have hj2 : j = acc.length := by omega
    subst hj2
    have ho2 : o0 = o := by have := hl 0; simp at this; rw [ho] at this; exact Option.some.inj this
    subst ho2
    have e1 : (acc ++ [dedup (close acc (bindsOf o0.after.toList))]).getD acc.length [] = dedup (close acc (bindsOf o0.after.toList)) := by simp
    rw [e1] at hi
    obtain ⟨e, he, h1⟩ := close_mem (mem_iff.1 (dedup_mem.1 (mem_iff.2 hi)))
    refine ⟨e, he, h1.imp id fun g => ?_⟩
    have hlt : e < acc.length := by
     rcases Nat.lt_or_ge e acc.length with h | h
     ·exact h
     ·rw [getD_big _ _ h] at g; cases g
    exact ⟨hlt, by rw [getD_append_left _ _ _ hlt]; exact g⟩

theorem bindsOf_mem : ∀ {l : List Edge} {i : Nat}, i ∈ bindsOf l ↔ ∃ e ∈ l, Region.binds .any e = true ∧ e.on = i
 |[], i => by simp [bindsOf]
 |e :: l, i => by
  simp only [bindsOf]
  cases h : Region.binds .any e with
  |true =>
   simp only [List.mem_cons, bindsOf_mem (l := l)]
   constructor
   ·rintro (h1 | ⟨e', h1, h2⟩)
    ·exact ⟨e, .inl rfl, h, h1.symm⟩
    ·exact ⟨e', .inr h1, h2⟩
   ·rintro ⟨e', h1 | h1, h2, h3⟩
    ·subst h1; exact .inl h3.symm
    ·exact .inr ⟨e', h1, h2, h3⟩
  |false =>
   simp only [List.mem_cons, bindsOf_mem (l := l)]
   constructor
   ·rintro ⟨e', h1, h2⟩; exact ⟨e', .inr h1, h2⟩
   ·rintro ⟨e', h1 | h1, h2, h3⟩
    ·subst h1; rw [h] at h2; cases h2
    ·exact ⟨e', h1, h2, h3⟩

def Down (ops : List Oper) (L : Nat → Bool) : Prop := ∀ j o, ops[j]? = some o → L j = true → ∀ i ∈ bindsOf o.after.toList, L i = true
theorem Down.bef {ops : List Oper} {L : Nat → Bool} (h : Down ops L) : ∀ (n j : Nat), j ≤ n → ∀ i o, ops[j]? = some o → (∀ i ∈ bindsOf o.after.toList, L i = true) → bef (befs ops []) i j = true → L i = true
 |n, j, hj, i, o, ho, hall, hb => by
  unfold Den.bef at hb
  rw [mem_iff] at hb
  obtain ⟨e, he, h1⟩ := befs_spec ops ops [] (fun k => by simp) (fun j o hj => by simp at hj) j o ho i hb
  rcases h1 with h1 | ⟨h1, h2⟩
  ·subst h1; exact hall i he
  ·cases n with
   |zero => omega
   |succ n =>
    have hlt : j < ops.length := (List.getElem?_eq_some_iff.1 ho).1
    have hoe : ops[e]? = some ops[e] := List.getElem?_eq_getElem (by omega)
    refine Down.bef h n e (by omega) i _ hoe ?_ (by unfold Den.bef; rw [mem_iff]; exact h2)
    exact h e _ hoe (hall e he)
end Go.Den
