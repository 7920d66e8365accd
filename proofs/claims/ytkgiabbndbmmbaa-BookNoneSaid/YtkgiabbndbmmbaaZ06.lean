import Derived.Shelf.Spec.SlicesInsertGrow
import Derived.Laws.CopyRow
import Derived.Test.YtkgiabbndbmmbaaZ05
set_option linter.unusedVariables false
set_option linter.unusedSimpArgs false
set_option linter.unusedSectionVars false
namespace Go.Den
open Go.Proofs Go.Lib
structure Grown (w w' : World) (bo : Option Nat) (k : Nat) (v : Value) (news : List Value) (n : Nat) : Prop where
 ex : ∃ g cap cur e, v = .slice (some ⟨g, 0, none⟩) n cap ∧ (w.heap.size ≤ g ∨ bo = some g) ∧ w'.heap[g]? = some (.cells cur e (0, 0)) ∧ n ≤ cap ∧ cap ≤ maxLen ∧ cap * k ≤ cur.size ∧ cur.toList.take (n * k) = news
 os : w'.os = w.os
 tape : w'.tape = w.tape
 output : w'.output = w.output
 size : w.heap.size ≤ w'.heap.size
 block : ∀ b, b < w.heap.size → bo ≠ some b → w'.heap[b]? = w.heap[b]?
 drawn : w.drawn ≤ w'.drawn

theorem setCells_row (w : World) (g o : Nat) (cur : Array Value) (t : TypeId) (vs : List Value) (hg : w.heap[g]? = some (.cells cur t (0, 0))) (hfit : o + vs.length ≤ cur.size) (h1 : ∀ v ∈ vs, v.oneCell' = true) :
  (w.setCells g o vs).heap[g]? = some (.cells (cur.toList.take o ++ vs ++ cur.toList.drop (o + vs.length)).toArray t (0, 0)) := by
 induction vs generalizing o cur w with
 |nil => simp [World.setCells, hg]
 |cons v r ih =>
  rw [World.setCells]
  have hlt : o < cur.size := by simp at hfit; omega
  have h2 : (w.setCell ⟨g, o, none⟩ v).heap[g]? = some (.cells (cur.setIfInBounds o v) t (0, 0)) := by
   rw [setCell_eq_setRow w g o cur t (0, 0) v hg]; exact setRow_heap w g cur _ t _ hg
  rw [ih (w.setCell ⟨g, o, none⟩ v) (o + 1) (cur.setIfInBounds o v) h2 (by simp at hfit ⊢; omega) (fun x hx => h1 x (by simp [hx]))]
  congr 3
  have := list_seg_step cur.toList o v r (by simp at hfit ⊢; omega)
  simp only [Array.toList_setIfInBounds, List.length_cons] at this ⊢
  exact this
theorem setCells_other (g o : Nat) : ∀ (vs : List Value) (o : Nat) (w : World) (b : Nat), b ≠ g → (w.setCells g o vs).heap[b]? = w.heap[b]?
 |[], o, w, b, _ => rfl
 |v :: r, o, w, b, h => by
  rw [World.setCells, setCells_other g o r (o + 1) _ b h]
  unfold World.setCell
  show (w.heap.modify g _)[b]? = _
  rw [Array.getElem?_modify, if_neg (Ne.symm h)]
theorem setCells_size (g : Nat) : ∀ (vs : List Value) (o : Nat) (w : World), (w.setCells g o vs).heap.size = w.heap.size
 |[], o, w => rfl
 |v :: r, o, w => by
  rw [World.setCells, setCells_size g r (o + 1)]
  unfold World.setCell
  show (w.heap.modify g _).size = _
  simp
theorem setCells_rest (g : Nat) : ∀ (vs : List Value) (o : Nat) (w : World), (w.setCells g o vs).os = w.os ∧ (w.setCells g o vs).tape = w.tape ∧ (w.setCells g o vs).output = w.output ∧ (w.setCells g o vs).drawn = w.drawn
 |[], o, w => ⟨rfl, rfl, rfl, rfl⟩
 |v :: r, o, w => by rw [World.setCells]; exact setCells_rest g r (o + 1) _

theorem run_copy_cellsK {P : Program} (w : World) (dT sT ty elem : TypeId) (i : TypeInfo) (b o dLen dCap : Nat) (a : Addr) (sLen sCap : Nat) (cs : List Value)
  (hu : P.underlying dT = some (.slice elem)) (hi : P.info? elem = some i) (q : Nat) (hq : q = Nat.min sLen dLen) (hn : cs.length = q * i.size)
  (hsrc : ∀ j v, cs[j]? = some v → w.cell? (a.add j) = some v) (hc : ∀ j, j < cs.length → (w.cell? ⟨b, o + j, none⟩).isSome = true) (hf : ∀ j, j < cs.length → w.frozen? ⟨b, o + j, none⟩ = false) (h1 : ∀ v ∈ cs, v.oneCell' = true) :
  (Builtin.copy_ #[dT, sT] ty #[.slice (some ⟨b, o, none⟩) dLen dCap, .slice (some a) sLen sCap]).run P w = .ok (goInt q) (w.setCells b o cs) := by
 subst hq
 have hl := run_loadCells_list (P := P) w a cs hsrc
 have hst := run_storeCells_cells (P := P) b o cs 0 w (by simpa using hc) (by simpa using hf) h1
 simp [Builtin.copy_, run_underlying hu, Builtin.lenOf, Builtin.firstCells, sizeOf, typeInfo, hi, ← hn, hl, hst]
theorem run_overlaps_plain {P : Program} (w : World) (tS tR e : TypeId) (ht : P.underlying tS = some (.slice e)) (size : Nat) (hz : ∀ w, (Go.sizeOf e).run P w = .ok size w)
  (a b : Addr) (la ca lb cb : Nat) (hne : a.block ≠ b.block) (tA tB : TypeId) (kA kB : Nat)
  (hsa : w.shape? a.block = some (tA, kA)) (hkA : kA ≠ 0) (hsb : w.shape? b.block = some (tB, kB)) (hkB : kB ≠ 0)
  (hfb : ∀ o s, w.frozen? { block := b.block, off := o, spot := s } = false) :
  (Extern.SlicesOverlaps.overlaps #[tS, tS] #[tR] #[.slice (some a) la ca, .slice (some b) lb cb]).run P w = .ok (.bool false) w := by
 have hnb : (a.block != b.block) = true := by simpa using hne
 have hnb' : (a.block == b.block) = false := by simpa using hne
 have hfb1 : w.frozen? b = false := hfb b.off b.spot
 have hfb2 : w.frozen? { block := b.block, off := kB } = false := hfb kB none
 change Sem.run P (α := Value) (do
  let some t := (#[tS, tS] : Array TypeId)[0]? | stuck "slices.overlaps: no parameter types"
  let .slice elem ← underlying t | stuck "slices.overlaps: slice type expected"
  let size ← sizeOf elem
  match (some a : Option Addr), (some b : Option Addr) with
  |some a, some b =>
   if la = 0 ∨ lb = 0 ∨ size = 0 then pure (Value.bool false)
   else if a.block != b.block && (← frozen a) && (← frozen b) then unsupported .addressObserved
   else do
    if a.block != b.block then do
     noView a; noView b
     if ← mayBeOne a b then return Value.bool ((← choose (.extern "sameAddr.stringBytes" 2)) == 1)
    pure (Value.bool (a.block == b.block && a.off < b.off + lb * size && b.off < a.off + la * size))
  |_, _ => pure (Value.bool false)) w = _
 by_cases h0 : la = 0 ∨ lb = 0 ∨ size = 0
 ·simp [run_underlying ht, hz, h0]
 ·cases kB with
  |zero => exact absurd rfl hkB
  |succ kB =>
  cases kA with
  |zero => exact absurd rfl hkA
  |succ kA =>
   cases hfa : w.frozen? a <;> cases hfe : w.frozen? { block := a.block, off := kA + 1 } <;>
    simp [run_underlying ht, hz, h0, hnb, hnb', frozen, noView, viewAt, mayBeOne, stringish, shape, Sem.run, hsa, hsb, hfa, hfe, hfb1, hfb2]
end Go.Den
namespace Go.Den
open Go.Proofs Go.Lib
theorem Inv.made {P : Program} {w w' : World} {x : X} {E : List Nat} {ext : List (List AV)} (hI : Inv ⟨P, w, x, E, [], []⟩ x w (zipExt 1000 ext)) (htk : ∀ k, x.tk k = none)
  {bo : Option Nat} (hbo : ∀ b, bo = some b → ∃ k cs, lookup (zipExt 1000 ext) k = some cs ∧ x.loc k = some b)
  {ks : List Kd} {rows : Rows} {v : Value} {news : List Value} (hg : Grown w w' bo ks.length v news rows.length) (ha : ArrV x.M ks rows news) (n : Nat) (hn : n = rows.length) (q : Nat) (hq : 1000 ≤ q) :
  ∃ x', Up x x' q ∧ Inv ⟨P, w, x', E, [], []⟩ x' w' [(q, [.arr ks rows])] ∧ Rep x' (.ms q ks 0 n n) v := by
 subst hn
 obtain ⟨⟨g, cap, cur, ty, rfl, hgb, hgh, hnc, hcm, hcs, htake⟩, hos, htape, hout, hsize, hblock, hdrawn⟩ := hg
 have hne : ∀ b o u, x.M b o = some u → bo ≠ some b := fun b o u hu hb => by
  obtain ⟨k, cs, h1, h2⟩ := hbo b hb
  obtain ⟨b', _, _, h3, _, _, _, h4⟩ := hI.slot k cs h1
  rw [h2] at h3; cases h3
  rw [h4] at hu; cases hu
 have hE : ∀ b, bo = some b → b ∈ E := fun b hb => by
  obtain ⟨k, cs, h1, h2⟩ := hbo b hb
  obtain ⟨b', _, _, h3, h5, h6, _, _⟩ := hI.slot k cs h1
  rw [h2] at h3; cases h3
  rcases h5 with h5 | h5
  ·exact absurd (Array.getElem?_eq_some_iff.1 h6).1 (by have : w.heap.size ≤ b := h5; omega)
  ·exact h5.1
 have hMg : ∀ o, x.M g o = none := fun o => by
  cases hu : x.M g o with
  |none => rfl
  |some u =>
   rcases hgb with hgb | hgb
   ·have := hI.lt hu; omega
   ·exact absurd hgb (hne g o u hu)
 have hlk : ∀ {k cs}, lookup [(q, [AV.arr ks rows])] k = some cs → k = q ∧ cs = [.arr ks rows] := fun {k cs} h => by
  simp only [lookup] at h
  split at h
  ·rename_i hb; cases h; exact ⟨(beq_eq.1 hb).symm, rfl⟩
  ·cases h
 refine ⟨{ x with loc := fun k => if k = q then some g else x.loc k, cap := fun k => if k = q then cur.size else x.cap k }, ⟨rfl, rfl, fun k hk => ?_, fun k hk => ?_⟩, ?_, ?_⟩
 ·show (if k = q then some g else x.loc k) = x.loc k
  rw [if_neg (by omega)]
 ·show (if k = q then cur.size else x.cap k) = x.cap k
  rw [if_neg (by omega)]
 ·refine ⟨fun b o u hu => ?_, fun k cs hk => ?_, fun k k' cs cs' b hk hk' _ _ => ?_, fun k u sz hk => ?_, fun k a n c sz j cs hk => ?_, fun k k' a n c sz a' n' c' sz' hk => ?_, hos, htape, hout, hsize, fun b hb hnE _ => ?_, Sub.refl _, fun b o u hu => .inl hu, fun _ _ => rfl, hI.low, ?_, hI.glob⟩
  ·have hu' : x.M b o = some u := hu
   rw [World.cell?_of_block (w := w) (hblock b (hI.lt hu') (hne b o u hu'))]
   exact hI.sub b o u hu'
  ·obtain ⟨rfl, rfl⟩ := hlk hk
   refine ⟨g, ty, cur, if_pos rfl, ?_, by rw [objOf_cells (isMp_arr _ _)]; exact hgh, .inr (.inl ⟨ks, rows, rfl, ?_⟩), hMg⟩
   ·rcases hgb with h | h
    ·exact .inl h
    ·exact .inr ⟨hE g h, hq⟩
   ·have h1 := ArrV.joined (rows2 := []) (l2 := cur.toList.drop (rows.length * ks.length)) ha rows.length (Nat.le_refl _) (.nil _)
    have h2 : news.length ≤ rows.length * ks.length := by rw [← htake, List.length_take]; omega
    rw [List.take_of_length_le (Nat.le_refl _), List.append_nil, List.take_of_length_le h2, ← htake, List.take_append_drop] at h1
    exact h1
  ·rw [(hlk hk).1, (hlk hk').1]
  ·have : x.tk k = some (u, sz) := hk
   rw [htk] at this; cases this
  ·have : x.tk k = some (.slice (some a) n c, sz) := hk
   rw [htk] at this; cases this
  ·have : x.tk k = some (.slice (some a) n c, sz) := hk
   rw [htk] at this; cases this
  ·exact hblock b hb (fun h => hnE (hE b h))
  ·refine ⟨fun k b cs hk _ hb => ?_, fun _ _ => rfl, hI.more.M0, fun k b cs arr t hk hv => ?_, hdrawn⟩
   ·obtain ⟨rfl, rfl⟩ := hlk hk
    have hb' : (if k = k then some g else x.loc k) = some b := hb
    rw [if_pos rfl] at hb'
    cases hb'
    exact ⟨cur, ty, hgh, by show (if k = k then cur.size else _) ≤ _; rw [if_pos rfl]; exact Nat.le_refl _⟩
   ·obtain ⟨rfl, rfl⟩ := hlk hk
    cases hv
 ·refine .ms q ks 0 rows.length rows.length g 0 cap ?_ (Nat.le_refl _) (fun _ => by simp) ⟨hnc, ?_, hcm⟩
  ·show (if q = q then some g else x.loc q) = some g
   rw [if_pos rfl]
  ·show 0 + cap * ks.length ≤ (if q = q then cur.size else x.cap q)
   rw [if_pos rfl]; omega
theorem made_contract {P : Program} {f : FuncId} {args : List AV} {ks : List Kd} {rows : Rows} (hf : ∃ fn, P.funcs[f]? = some fn ∧ fn.body.isSome = true ∧ fn.name ≠ "runtime.NumGoroutine") (n : Nat) (hn : n = rows.length)
  (h : ∀ (w : World) (x : X) (E : List Nat) (vs : List Value), (∀ k, x.tk k = none) → Inv ⟨P, w, x, E, [], []⟩ x w (zipExt 1000 []) → RepL x args vs →
   Calls P f ⟨vs⟩ w fun en w' => ∃ v news, en = .returned v ∧ Grown w w' none ks.length v news rows.length ∧ ArrV x.M ks rows news) :
  Contract P f args [] ⟨false, .ms 1000 ks 0 n n, [[.arr ks rows]]⟩ := by
 refine .inr ⟨hf, rfl, by simp, fun w x E vs htk hI hR => ?_⟩
 refine (h w x E vs htk hI hR).mono ?_
 rintro en w' ⟨v, news, rfl, hg, ha⟩
 obtain ⟨x', h1, h2, h3⟩ := hI.made htk (bo := none) (fun b hb => by cases hb) hg ha n hn 1000 (Nat.le_refl _)
 exact ⟨x', x', v, rfl, h1, h2, h3⟩
theorem grown_contract {P : Program} {f : FuncId} {args : List AV} {ks : List Kd} {rows0 rows : Rows} (hf : ∃ fn, P.funcs[f]? = some fn ∧ fn.body.isSome = true ∧ fn.name ≠ "runtime.NumGoroutine") (n : Nat) (hn : n = rows.length)
  (h : ∀ (w : World) (x : X) (E : List Nat) (vs : List Value), (∀ k, x.tk k = none) → Inv ⟨P, w, x, E, [], []⟩ x w (zipExt 1000 [[.arr ks rows0]]) → RepL x args vs →
   Calls P f ⟨vs⟩ w fun en w' => ∃ v news bo, en = .returned v ∧ (bo = none ∨ bo = x.loc 1000) ∧ Grown w w' bo ks.length v news rows.length ∧ ArrV x.M ks rows news) :
  Contract P f args [[.arr ks rows0]] ⟨false, .ms 1001 ks 0 n n, [[], [.arr ks rows]]⟩ := by
 refine .inr ⟨hf, rfl, by simp, fun w x E vs htk hI hR => ?_⟩
 refine (h w x E vs htk hI hR).mono ?_
 rintro en w' ⟨v, news, bo, rfl, hb, hg, ha⟩
 obtain ⟨x', h1, h2, h3⟩ := hI.made htk (bo := bo) (fun b hb' => by
  rcases hb with rfl | hb
  ·cases hb'
  ·exact ⟨1000, _, rfl, by rw [← hb]; exact hb'⟩) hg ha n hn 1001 (by omega)
 exact ⟨x', x', v, rfl, h1, h2, h3⟩
theorem ArrV.exact {M : Mm} {ks : List Kd} : ∀ {rows : Rows} {l : List Value}, ArrV M ks rows l → ArrV M ks rows (l.take (rows.length * ks.length)) ∧ ∀ v ∈ l.take (rows.length * ks.length), v.oneCell' = true
 |_, _, .nil l => by simpa using ArrV.nil (M := M) (ks := ks) []
 |_, _, .cons row vs rows l h1 h2 h3 => by
  obtain ⟨g1, g2⟩ := ArrV.exact h3
  have hl := Row.ofKds_length h1
  have hv := h2.length
  have e1 : (vs ++ l).take ((row :: rows).length * ks.length) = vs ++ l.take (rows.length * ks.length) := by
   rw [List.length_cons, Nat.add_mul, Nat.one_mul, show rows.length * ks.length + ks.length = vs.length + rows.length * ks.length by omega, List.take_length_add_append]
  rw [e1]
  refine ⟨.cons row vs _ _ h1 h2 g1, fun v hm => ?_⟩
  rcases List.mem_append.1 hm with hm | hm
  ·exact h2.one v hm
  ·exact g2 v hm
theorem shift_row {α : Type} (arr vals : List α) (p q r : Nat) (hv : vals.length = q) (hl : p + q + r ≤ arr.length) :
  ((arr.take (p + q) ++ (arr.take (p + r)).drop p ++ arr.drop (p + q + r)).take p ++ vals ++ (arr.take (p + q) ++ (arr.take (p + r)).drop p ++ arr.drop (p + q + r)).drop (p + q)).take (p + q + r) = (arr.take (p + r)).take p ++ vals ++ (arr.take (p + r)).drop p := by
 have e1 : (arr.take (p + q) ++ (arr.take (p + r)).drop p ++ arr.drop (p + q + r)).take p = arr.take p := by
  rw [List.append_assoc, List.take_append_of_le_length (by rw [List.length_take]; omega), List.take_take, Nat.min_eq_left (by omega)]
 have e2 : (arr.take (p + q) ++ (arr.take (p + r)).drop p ++ arr.drop (p + q + r)).drop (p + q) = (arr.take (p + r)).drop p ++ arr.drop (p + q + r) := by
  rw [List.append_assoc, List.drop_append, List.drop_of_length_le (by rw [List.length_take]; omega), List.nil_append, List.length_take, Nat.min_eq_left (by omega), Nat.sub_self, List.drop_zero]
 have e3 : (arr.take (p + r)).take p = arr.take p := by rw [List.take_take, Nat.min_eq_left (by omega)]
 rw [e1, e2, e3, ← List.append_assoc, List.take_append_of_le_length (by simp only [List.length_append, List.length_take, List.length_drop]; omega), List.take_of_length_le (by simp only [List.length_append, List.length_take, List.length_drop]; omega)]
theorem put_row {α : Type} (arr vals : List α) (p q : Nat) (hv : vals.length = q) (hl : p + q ≤ arr.length) :
  (arr.take p ++ vals ++ arr.drop (p + q)).take (p + q) = arr.take p ++ vals := by
 rw [List.take_append_of_le_length (by simp only [List.length_append, List.length_take]; omega), List.take_of_length_le (by simp only [List.length_append, List.length_take]; omega)]
theorem grow_row {α : Type} (ROW cs vals : List α) (p q r : Nat) (hv : vals.length = q) (hc : cs.length = p + r) (hR : ROW.take p = cs.take p) (hl : p + q + r ≤ ROW.length) :
  ((ROW.take p ++ vals ++ ROW.drop (p + q)).take (p + q) ++ cs.drop p ++ (ROW.take p ++ vals ++ ROW.drop (p + q)).drop (p + q + r)).take (p + q + r) = cs.take p ++ vals ++ cs.drop p := by
 rw [put_row ROW vals p q hv (by omega), hR, List.take_append_of_le_length (by simp only [List.length_append, List.length_take, List.length_drop]; omega), List.take_of_length_le (by simp only [List.length_append, List.length_take, List.length_drop]; omega)]
end Go.Den
