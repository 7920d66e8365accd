import Derived.Test.YtlpnccpagikioaaDoorDen2
set_option linter.unusedVariables false
set_option linter.unusedSimpArgs false
set_option linter.unusedSectionVars false
/- Steps of memory: a box, a store, an append. -/
namespace Go.Den

theorem lookup_box (m : Mem) (d : Nat) (cs : List AV) (k : Nat) :
    lookup (writes (scrubM [d] [] (dropAll m [d])) [(d, cs)]) k = if k = d then some cs else (lookup m k).map (AV.scrubL [d] []) := by
  simp only [writes, lookup_write, lookup_scrubM, lookup_dropAll]
  by_cases h : k = d
  · simp [h]
  · have : mem k [d] = false := by
      cases hb : mem k [d] with
      | false => rfl
      | true => exact absurd (by simpa using mem_iff.1 hb) h
    simp [h, this]

def X.withBox (x : X) (d g n : Nat) : X := { x with loc := fun k => if k = d then some g else x.loc k, cap := fun k => if k = d then n else x.cap k }
theorem Ext.withBox (x : X) (d g n : Nat) : Ext x (x.withBox d g n) [d] [] :=
  ⟨Sub.refl _, fun k b hk h => by
    have : k ≠ d := fun e => by subst e; simp [mem] at hk
    simp only [X.withBox, if_neg this]; exact h, fun _ _ _ h => h, fun k hk => by
    have : k ≠ d := fun e => by subst e; simp [mem] at hk
    simp only [X.withBox, if_neg this], rfl⟩
theorem Inv.withBox {e : Env} {x : X} {w : World} {m : Mem} (h : Inv e x w m) (d : Nat) (hd : d < 1000) (arr : Array Value) (ty : TypeId) (cs : List AV)
    (hr : Cont (x.withBox d w.heap.size arr.size) cs arr.toList) :
    Inv e (x.withBox d w.heap.size arr.size) (w.alloc (.cells arr ty)) (writes (scrubM [d] [] (dropAll m [d])) [(d, cs)]) where
  sub b o v hv := by rw [World.cell?_alloc_lt _ _ _ (h.lt (b := b) (o := o) (v := v) hv)]; exact h.sub b o v hv
  slot k ds hk := by
    rw [lookup_box] at hk
    by_cases hkd : k = d
    · rw [if_pos hkd] at hk
      obtain rfl := Option.some.inj hk
      refine ⟨w.heap.size, ty, arr, by simp [X.withBox, hkd], .inl h.size, heap_new _ _, hr, fun o => ?_⟩
      cases hm : x.M w.heap.size o with
      | none => exact hm
      | some v => exact absurd (h.lt hm) (by omega)
    · rw [if_neg hkd] at hk
      obtain ⟨ds0, h0, rfl⟩ := Option.map_eq_some_iff.1 hk
      obtain ⟨b, t, a, h1, h2, h3, h4, h5⟩ := h.slot k ds0 h0
      have hb := (Array.getElem?_eq_some_iff.1 h3).1
      exact ⟨b, t, a, by simp only [X.withBox, if_neg hkd]; exact h1, h2, by rw [heap_old _ _ _ hb]; exact h3, h4.scrub (Ext.withBox x d _ _), h5⟩
  inj k k' ds ds' b hk hk' hb hb' := by
    rw [lookup_box] at hk hk'
    simp only [X.withBox] at hb hb'
    by_cases h1 : k = d
    · by_cases h2 : k' = d
      · rw [h1, h2]
      · rw [if_pos h1] at hb; rw [if_neg h2] at hb' hk'
        obtain ⟨ds0, h0, _⟩ := Option.map_eq_some_iff.1 hk'
        obtain ⟨b2, t, a, h3, _, h4, _⟩ := h.slot k' ds0 h0
        have := (Array.getElem?_eq_some_iff.1 h4).1
        rw [h3] at hb'
        obtain rfl := Option.some.inj hb'
        have := Option.some.inj hb
        omega
    · by_cases h2 : k' = d
      · rw [if_pos h2] at hb'; rw [if_neg h1] at hb hk
        obtain ⟨ds0, h0, _⟩ := Option.map_eq_some_iff.1 hk
        obtain ⟨b2, t, a, h3, _, h4, _⟩ := h.slot k ds0 h0
        have := (Array.getElem?_eq_some_iff.1 h4).1
        rw [h3] at hb
        obtain rfl := Option.some.inj hb
        have := Option.some.inj hb'
        omega
      · rw [if_neg h1] at hb hk; rw [if_neg h2] at hb' hk'
        obtain ⟨c0, h0, _⟩ := Option.map_eq_some_iff.1 hk
        obtain ⟨c1, h3, _⟩ := Option.map_eq_some_iff.1 hk'
        exact h.inj k k' c0 c1 b h0 h3 hb hb'
  tok k v sz hk a n c hv hn := by
    obtain ⟨cur, ty, h1, h2, h3, h4, h5, h6, h7⟩ := h.tok k v sz hk a n c hv hn
    have hb := (Array.getElem?_eq_some_iff.1 h4).1
    exact ⟨cur, ty, h1, h2, h3, by rw [heap_old _ _ _ hb]; exact h4, h5, h6, h7⟩
  tokslot k a n c sz j ds hk hn hj hl := by
    rw [lookup_box] at hj
    by_cases hjd : j = d
    · simp only [X.withBox, if_pos hjd] at hl
      have := h.tokLt (k := k) hk hn
      have := Option.some.inj hl
      omega
    · rw [if_neg hjd] at hj
      simp only [X.withBox, if_neg hjd] at hl
      obtain ⟨c0, h0, _⟩ := Option.map_eq_some_iff.1 hj
      exact h.tokslot k a n c sz j c0 hk hn h0 hl
  toktok := h.toktok
  os := h.os
  tape := h.tape
  output := h.output
  size := by have := h.size; simp; omega
  old b hb hE hL := by rw [heap_old _ _ _ (by have := h.size; omega)]; exact h.old b hb hE hL
  mono := h.mono
  new := h.new
  ext k hk := by simp only [X.withBox]; rw [if_neg (by omega)]; exact h.ext k hk
  low := h.low
  glob := h.glob
  more := by
    refine ⟨fun k b ds hk hb => ?_, fun k hk => ?_, h.more.M0, h.more.drawn⟩
    · rw [lookup_box] at hk
      simp only [X.withBox] at hb ⊢
      by_cases hkd : k = d
      · rw [if_pos hkd] at hb ⊢
        obtain rfl := Option.some.inj hb
        exact ⟨arr, ty, heap_new _ _, Nat.le_refl _⟩
      · rw [if_neg hkd] at hk hb ⊢
        obtain ⟨c0, h0, _⟩ := Option.map_eq_some_iff.1 hk
        obtain ⟨arr', ty', h3, h4⟩ := h.more.room k b c0 h0 hb
        exact ⟨arr', ty', by rw [heap_old _ _ _ (Array.getElem?_eq_some_iff.1 h3).1]; exact h3, h4⟩
    · simp only [X.withBox]; rw [if_neg (by omega)]; exact h.more.ext k hk

/-- One block is written: no cell of M, but of the slot k, which holds cs then. -/
theorem Inv.withSlot {e : Env} {x : X} {w : World} {m : Mem} (h : Inv e x w m) (k : Nat) (cs0 cs : List AV) (b : Nat) (hk : lookup m k = some cs0) (hb : x.loc k = some b)
    (ty : TypeId) (old arr : Array Value) (hg : w.heap[b]? = some (.cells old ty (0, 0))) (hsize : old.size ≤ arr.size) (hr : Cont x cs arr.toList) :
    Inv e x (w.setRow b arr) (write m k cs) where
  sub b' o v hv := by
    obtain ⟨b1, _, _, h1, _, _, _, h5⟩ := h.slot k cs0 hk
    rw [hb] at h1
    obtain rfl := Option.some.inj h1
    have hne : b' ≠ b := fun e => by rw [e, h5] at hv; cases hv
    rw [World.cell?_of_block (w := w) (setRow_other w b b' _ hne)]
    exact h.sub b' o v hv
  slot j ds hj := by
    rw [lookup_write] at hj
    obtain ⟨b1, t1, a1, h1, h2, h3, h4, h5⟩ := h.slot k cs0 hk
    rw [hb] at h1
    obtain rfl := Option.some.inj h1
    by_cases hjk : j = k
    · rw [if_pos hjk] at hj
      obtain rfl := Option.some.inj hj
      exact ⟨b, ty, arr, by rw [hjk]; exact hb, by rw [hjk]; exact h2, setRow_heap w b old _ ty _ hg, hr, h5⟩
    · rw [if_neg hjk] at hj
      obtain ⟨b2, t2, a2, h6, h7, h8, h9, h10⟩ := h.slot j ds hj
      have hne : b2 ≠ b := fun e => hjk (h.inj j k ds cs0 b hj hk (by rw [h6, e]) hb)
      exact ⟨b2, t2, a2, h6, h7, by rw [setRow_other w b b2 _ hne]; exact h8, h9, h10⟩
  inj j j' ds ds' b' hj hj' := by
    have g : ∀ {i l}, lookup (write m k cs) i = some l → ∃ l', lookup m i = some l' := by
      intro i l hi
      rw [lookup_write] at hi
      by_cases hik : i = k
      · exact ⟨cs0, by rw [hik]; exact hk⟩
      · rw [if_neg hik] at hi; exact ⟨l, hi⟩
    obtain ⟨l, hl⟩ := g hj
    obtain ⟨l', hl'⟩ := g hj'
    exact h.inj j j' l l' b' hl hl'
  tok j v sz hj a n c hv hn := by
    obtain ⟨cur, t, h1, h2, h3, h4, h5, h6, h7⟩ := h.tok j v sz hj a n c hv hn
    have hne : a.block ≠ b := fun e => h.tokslot j a n c sz k cs0 (by rw [hj, hv]) hn hk (by rw [e]; exact hb)
    exact ⟨cur, t, h1, h2, h3, by rw [setRow_other w b a.block _ hne]; exact h4, h5, h6, h7⟩
  tokslot j a n c sz i ds hj hn hi := by
    rw [lookup_write] at hi
    by_cases hik : i = k
    · exact h.tokslot j a n c sz i cs0 hj hn (by rw [hik]; exact hk)
    · rw [if_neg hik] at hi; exact h.tokslot j a n c sz i ds hj hn hi
  toktok := h.toktok
  os := h.os
  tape := h.tape
  output := h.output
  size := by have := h.size; rwa [show (w.setRow b arr).heap.size = w.heap.size by simp [World.setRow]]
  old b' hb' hE hL := by
    obtain ⟨b1, t1, a1, h1, h2, h3, h4, h5⟩ := h.slot k cs0 hk
    rw [hb] at h1
    obtain rfl := Option.some.inj h1
    have hne : b' ≠ b := fun e => by rcases h2 with h2 | h2; omega; exact hE (e ▸ h2.1)
    rw [setRow_other w b b' _ hne]; exact h.old b' hb' hE hL
  mono := h.mono
  new := h.new
  ext := h.ext
  low := h.low
  glob := h.glob
  more := by
    refine h.more.step (fun j b' ds hj hb' => ?_) (fun b' ar' t' hb' => ?_) (fun _ _ => rfl) rfl (Nat.le_refl _)
    · rw [lookup_write] at hj
      by_cases hjk : j = k
      · exact ⟨cs0, by rw [hjk]; exact hk, hb', rfl⟩
      · rw [if_neg hjk] at hj; exact ⟨ds, hj, hb', rfl⟩
    · by_cases hbb : b' = b
      · subst hbb
        rw [hg] at hb'
        cases hb'
        exact ⟨arr, _, setRow_heap w b' old _ ty _ hg, hsize⟩
      · exact ⟨ar', t', by rw [setRow_other w b b' _ hbb]; exact hb', Nat.le_refl _⟩

/-! an append -/
def X.withTok (x : X) (d : Nat) (v : Value) (sz : Nat) (str : List Nat) : X :=
  { x with tk := fun j => if j = d then some (v, sz) else if mem j str then none else x.tk j }
theorem Ext.withTok (x : X) (d : Nat) (v : Value) (sz : Nat) (str : List Nat) (hd : mem d str = true) : Ext x (x.withTok d v sz str) [] str :=
  ⟨Sub.refl _, fun _ _ _ h => h, fun k z hk h => by
    have : k ≠ d := fun e => by rw [e, hd] at hk; cases hk
    simp only [X.withTok, if_neg this, hk]; exact h, fun _ _ => rfl, rfl⟩
/-- A token for a slice that has no room to spare, or whose room was another token's, that is struck. -/
theorem Inv.withTok {e : Env} {x : X} {w : World} {m : Mem} (h : Inv e x w m) (d : Nat) (v : Value) (sz : Nat) (str : List Nat) (hd : mem d str = true)
    (hv : TokOk e x w v sz)
    (hslot : ∀ a n c j cs, v = .slice (some a) n c → 0 < c → lookup m j = some cs → x.loc j ≠ some a.block)
    (htok : ∀ a n c j a' n' c' sz', v = .slice (some a) n c → 0 < c → mem j str = false → x.tk j = some (.slice (some a') n' c', sz') → 0 < c' → a.block ≠ a'.block) :
    Inv e (x.withTok d v sz str) w (scrubM [] str m) := by
  refine h.forget (p := []) (ks := str) (Ext.withTok x d v sz str hd) rfl (fun _ _ h => h) (fun _ _ => rfl) (fun _ _ => rfl) ?_ ?_ ?_ ?_
  · intro k cs hk
    rw [lookup_scrubM] at hk
    obtain ⟨c0, h0, h1⟩ := Option.map_eq_some_iff.1 hk
    exact ⟨rfl, c0, h0, h1.symm⟩
  · intro k u s hk
    simp only [X.withTok] at hk
    by_cases hkd : k = d
    · rw [if_pos hkd] at hk; cases hk; exact hv
    · rw [if_neg hkd] at hk
      by_cases hs : mem k str = true
      · rw [if_pos hs] at hk; cases hk
      · rw [if_neg hs] at hk; exact h.tok k u s hk
  · intro k a n c s j cs hk hn hj
    simp only [X.withTok] at hk
    by_cases hkd : k = d
    · rw [if_pos hkd] at hk
      have := Option.some.inj hk
      exact hslot a n c j cs (congrArg Prod.fst this) hn hj
    · rw [if_neg hkd] at hk
      by_cases hs : mem k str = true
      · rw [if_pos hs] at hk; cases hk
      · rw [if_neg hs] at hk; exact h.tokslot k a n c s j cs hk hn hj
  · intro k k' a n c s a' n' c' s' hk hk' hn hn' hab
    simp only [X.withTok] at hk hk'
    by_cases h1 : k = d
    · by_cases h2 : k' = d
      · rw [h1, h2]
      · rw [if_pos h1] at hk; rw [if_neg h2] at hk'
        by_cases hs : mem k' str = true
        · rw [if_pos hs] at hk'; cases hk'
        · rw [if_neg hs] at hk'
          exact absurd hab (htok a n c k' a' n' c' s' (congrArg Prod.fst (Option.some.inj hk)) hn (by simpa using hs) hk' hn')
    · rw [if_neg h1] at hk
      by_cases hs : mem k str = true
      · rw [if_pos hs] at hk; cases hk
      rw [if_neg hs] at hk
      by_cases h2 : k' = d
      · rw [if_pos h2] at hk'
        exact absurd hab.symm (htok a' n' c' k a n c s (congrArg Prod.fst (Option.some.inj hk')) hn' (by simpa using hs) hk hn)
      · rw [if_neg h2] at hk'
        by_cases hs' : mem k' str = true
        · rw [if_pos hs'] at hk'; cases hk'
        rw [if_neg hs'] at hk'
        exact h.toktok k k' a n c s a' n' c' s' hk hk' hn hn' hab

theorem add_addr {a : Addr} (hs : a.spot = none) (j : Nat) : a.add j = ⟨a.block, a.off + j, none⟩ := by
  obtain ⟨b, o, s⟩ := a
  simp only at hs
  subst hs
  unfold Addr.add
  split <;> simp_all

/-- The values of a slice's cells. -/
theorem RepD.rows {M : Mm} {n : Bool} {ks : List Kd} {rows : Rows} {v : Value} (h : RepD M (.sl n ks rows) v) :
    (n = true ∧ rows = [] ∧ v = .slice none 0 0) ∨ ∃ a c, n = false ∧ v = .slice (some a) rows.length c ∧ rows.length ≤ c ∧ (rows ≠ [] → a.spot = none) ∧ RowsAt M a.block a.off ks rows := by
  cases h with
  | nil => exact .inl ⟨rfl, rfl, rfl⟩
  | sl _ _ a c h1 h2 h3 => exact .inr ⟨a, c, rfl, rfl, h1, h2, h3⟩

theorem cells_of_rows {e : Env} {x : X} {w : World} {m : Mem} (h : Inv e x w m) {a : Addr} {ks : List Kd} {rows : Rows} (hs : rows ≠ [] → a.spot = none) (hr : RowsAt x.M a.block a.off ks rows) :
    ∃ vs : List Value, vs.length = rows.length * ks.length ∧ (∀ (j : Nat) (v : Value), vs[j]? = some v → x.M a.block (a.off + j) = some v) ∧ (∀ v ∈ vs, v.oneCell' = true) ∧ ∀ (j : Nat) (v : Value), vs[j]? = some v → w.cell? (a.add j) = some v := by
  obtain ⟨vs, hl, hv⟩ := hr.values
  refine ⟨vs, hl, fun j v hj => (hv j v hj).1, fun v hm => ?_, fun j v hj => ?_⟩
  · obtain ⟨j, hj⟩ := List.getElem?_of_mem hm
    exact (hv j v hj).2
  · by_cases hn : rows = []
    · subst hn; simp at hl; subst hl; simp at hj
    · rw [add_addr (hs hn)]; exact h.sub _ _ _ (hv j v hj).1

/-- Behind an append that grows. -/
theorem append_grown {e : Env} {x : X} {w : World} {m : Mem} (h : Inv e x w m) (d : Nat) (str : List Nat) (hd : mem d str = true) (ks : List Kd) (rows rows2 : Rows) (news olds : List Value)
    (b o b2 o2 : Nat) (ho : RowsAt x.M b o ks rows) (hn : RowsAt x.M b2 o2 ks rows2)
    (hol : olds.length = rows.length * ks.length) (hnl : news.length = rows2.length * ks.length)
    (hov : ∀ (j : Nat) (v : Value), olds[j]? = some v → x.M b (o + j) = some v) (hnv : ∀ (j : Nat) (v : Value), news[j]? = some v → x.M b2 (o2 + j) = some v)
    (cap : Nat) (hcap : rows.length + rows2.length ≤ cap) (hcm : cap ≤ maxLen) (arr : Array Value) (ty : TypeId) (hsz : arr.size = cap * ks.length) (hpre : arr.toList.take (olds ++ news).length = olds ++ news) :
    ∃ x', Rep x' (.sl false ks (rows ++ rows2) (.tok d)) (.slice (some ⟨w.heap.size, 0, none⟩) (rows.length + rows2.length) cap) ∧
      Inv e x' (w.drew.alloc (.cells arr ty)) (scrubM [] str m) ∧ Ext x x' [] str := by
  have hcs : ∀ (j : Nat) (v : Value), (olds ++ news)[j]? = some v → arr[j]? = some v := by
    intro j v hj
    rw [← hpre, List.getElem?_take] at hj
    split at hj
    · rw [Array.getElem?_toList] at hj; exact hj
    · cases hj
  have h1 := h.drew.withRow arr ty (olds ++ news) hcs
  simp only [World.size_drew] at h1
  have hsub : Sub x.M (x.withRow w.heap.size (olds ++ news)).M := Sub.withRow h _
  have hMn : ∀ j, (x.withRow w.heap.size (olds ++ news)).M w.heap.size j = (olds ++ news)[j]? := by intro j; simp [X.withRow]
  have hro : RowsAt (x.withRow w.heap.size (olds ++ news)).M w.heap.size 0 ks rows := by
    refine ho.copy hsub fun j v hj hv => ?_
    rw [hMn, Nat.zero_add, List.getElem?_append_left (by omega)]
    have hj' : j < olds.length := by omega
    have := hov j olds[j] (by simp [hj'])
    rw [hv] at this
    rw [List.getElem?_eq_getElem hj']; exact this.symm ▸ rfl
  have hrn : RowsAt (x.withRow w.heap.size (olds ++ news)).M w.heap.size (0 + rows.length * ks.length) ks rows2 := by
    refine hn.copy hsub fun j v hj hv => ?_
    rw [hMn, List.getElem?_append_right (by omega)]
    have e : 0 + rows.length * ks.length + j - olds.length = j := by omega
    rw [e]
    have hj' : j < news.length := by omega
    have := hnv j news[j] (by simp [hj'])
    rw [hv] at this
    rw [List.getElem?_eq_getElem hj']; exact this.symm ▸ rfl
  have hfresh : (w.drew.alloc (.cells arr ty)).heap[w.heap.size]? = some (.cells arr ty (0, 0)) := heap_new w.drew _
  refine ⟨(x.withRow w.heap.size (olds ++ news)).withTok d (.slice (some ⟨w.heap.size, 0, none⟩) (rows.length + rows2.length) cap) ks.length str, ?_, h1.withTok d _ ks.length str hd ?_ ?_ ?_, ?_⟩
  · refine .sl _ _ _ _ _ ?_ (by simp [RtOk, X.withTok])
    rw [← List.length_append]
    exact .sl ks (rows ++ rows2) ⟨w.heap.size, 0, none⟩ cap (by simpa using hcap) (fun _ => rfl) (hro.append hrn)
  · intro a n c hv hlt
    injection hv with h2 h3 h4
    injection h2 with h2
    subst h2; subst h3; subst h4
    refine ⟨arr, ty, rfl, rfl, .inl h.size, hfresh, hcm, Nat.le_of_eq hsz.symm, fun j hj => ?_⟩
    rw [hMn, List.getElem?_eq_none]
    simp only [List.length_append, hol, hnl]
    rw [Nat.add_mul] at hj
    exact hj
  · intro a n c j cs hv hlt hj hl
    injection hv with h2 h3 h4
    injection h2 with h2
    subst h2
    obtain ⟨b', _, _, h5, _, h6, _⟩ := h.slot j cs hj
    have := (Array.getElem?_eq_some_iff.1 h6).1
    have h7 : x.loc j = some w.heap.size := hl
    rw [h5] at h7
    have := Option.some.inj h7
    omega
  · intro a n c j a' n' c' sz' hv hlt hs hj hlt' hab
    injection hv with h2 h3 h4
    injection h2 with h2
    subst h2
    have := h.tokLt (k := j) hj hlt'
    simp only at hab
    omega
  · exact ⟨hsub, fun _ _ _ h => h, (Ext.withTok (x.withRow w.heap.size (olds ++ news)) d _ ks.length str hd).tk, fun _ _ => rfl, rfl⟩

/-- In place, in the room that a token has. -/
theorem run_append_place {P : Program} (w : World) (t ty el : TypeId) (i : TypeInfo) (ht : P.underlying t = some (.slice el)) (hi : P.info? el = some i)
    (g sLen sCap : Nat) (cur : Array Value) (tag : TypeId) (hg : w.heap[g]? = some (.cells cur tag (0, 0)))
    (a : Addr) (m c : Nat) (news : List Value) (hl : news.length = m * i.size) (hnews : ∀ (j : Nat) (u : Value), news[j]? = some u → w.cell? (a.add j) = some u) (h1 : ∀ u ∈ news, u.oneCell' = true)
    (hroom : sLen + m ≤ sCap) (hfit : sLen * i.size + news.length ≤ cur.size) :
    (Builtin.append_ #[t, t] ty #[.slice (some ⟨g, 0, none⟩) sLen sCap, .slice (some a) m c]).run P w =
      .ok (.slice (some ⟨g, 0, none⟩) (sLen + m) sCap) (w.setRow g (cur.toList.take (sLen * i.size) ++ news ++ cur.toList.drop (sLen * i.size + news.length)).toArray) := by
  have hf := run_firstCells_some (P := P) w i.size m a m c news hl hnews
  have hst := run_storeCells_at P g (sLen * i.size) tag news 0 cur w hg (by simpa using hfit) h1
  simp only [Nat.add_zero] at hst
  simp [Builtin.append_, run_underlying ht, sizeOf, typeInfo, hi, Builtin.lenOf, hroom, hf, Addr.add_lit, hst]

def X.withPart (x : X) (g lo : Nat) (cs : List Value) : X :=
  { x with M := fun b o => if b = g ∧ lo ≤ o then cs[o - lo]? else x.M b o }

theorem Right.scrub_twice {ks' ks : List Nat} (h : ∀ k, mem k ks' = true → mem k ks = true) (r : Right) : (r.scrub ks).scrub ks' = r.scrub ks := by
  cases r with
  | no => rfl
  | ex => rfl
  | old => rfl
  | tok k =>
    show (if mem k ks = true then Right.no else Right.tok k).scrub ks' = if mem k ks = true then Right.no else Right.tok k
    by_cases hk : mem k ks = true
    · rw [if_pos hk]; rfl
    · rw [if_neg hk]
      show (if mem k ks' = true then Right.no else Right.tok k) = _
      rw [if_neg fun hk' => hk (h k hk')]
mutual
theorem scrub_twice (ks' ks : List Nat) (h : ∀ k, mem k ks' = true → mem k ks = true) : ∀ a, AV.scrub [] ks' (AV.scrub [] ks a) = AV.scrub [] ks a
  | .dv d => rfl
  | .sl n kd rows r => by simp only [AV.scrub]; rw [Right.scrub_twice h]
  | .agg cs => by simp only [AV.scrub]; rw [scrubL_twice ks' ks h cs]
  | .tup cs => by simp only [AV.scrub]; rw [scrubL_twice ks' ks h cs]
  | .pl k off => rfl
  | .pv kd row off => rfl
  | .fn f cs => by simp only [AV.scrub]; rw [scrubL_twice ks' ks h cs]
  | .ifc t a => by simp only [AV.scrub]; rw [scrub_twice ks' ks h a]
  | .ms .. => rfl
  | .pa .. => rfl
  | .arr .. => rfl
  | .junk => rfl
theorem scrubL_twice (ks' ks : List Nat) (h : ∀ k, mem k ks' = true → mem k ks = true) : ∀ l, AV.scrubL [] ks' (AV.scrubL [] ks l) = AV.scrubL [] ks l
  | [] => rfl
  | a :: l => by simp only [AV.scrubL]; rw [scrub_twice ks' ks h a, scrubL_twice ks' ks h l]
end

theorem append_place {e : Env} {x : X} {w : World} {m : Mem} (h : Inv e x w m) (d j : Nat) (ks : List Kd) (rows rows2 : Rows) (news : List Value)
    (g cap : Nat) (cur : Array Value) (tag : TypeId) (b2 o2 : Nat)
    (hj : x.tk j = some (.slice (some ⟨g, 0, none⟩) rows.length cap, ks.length)) (hlt : rows.length < cap) (hg : w.heap[g]? = some (.cells cur tag (0, 0))) (hcm : cap ≤ maxLen) (hsz : cap * ks.length ≤ cur.size)
    (hfree : ∀ i, rows.length * ks.length ≤ i → x.M g i = none) (hbase : e.w0.heap.size ≤ g ∨ g ∈ e.L)
    (ho : RowsAt x.M g 0 ks rows) (hn : RowsAt x.M b2 o2 ks rows2) (hnl : news.length = rows2.length * ks.length) (hnv : ∀ (j : Nat) (v : Value), news[j]? = some v → x.M b2 (o2 + j) = some v)
    (hroom : rows.length + rows2.length ≤ cap) :
    ∃ x', Rep x' (.sl false ks (rows ++ rows2) (.tok d)) (.slice (some ⟨g, 0, none⟩) (rows.length + rows2.length) cap) ∧
      Inv e x' (w.setRow g (cur.toList.take (rows.length * ks.length) ++ news ++ cur.toList.drop (rows.length * ks.length + news.length)).toArray) (scrubM [] [d, j] m) ∧ Ext x x' [] [d, j] := by
  generalize hA : (cur.toList.take (rows.length * ks.length) ++ news ++ cur.toList.drop (rows.length * ks.length + news.length)).toArray = arr
  have hpos : 0 < cap := by omega
  have hfit : rows.length * ks.length + news.length ≤ cur.size := by rw [hnl, ← Nat.add_mul]; exact Nat.le_trans (Nat.mul_le_mul_right _ hroom) hsz
  have harr : arr.size = cur.size := by
    rw [← hA]
    simp only [List.size_toArray, List.length_append, List.length_take, List.length_drop, Array.length_toList]
    omega
  have hpre : ∀ i, i < rows.length * ks.length → arr[i]? = cur[i]? := by
    intro i hi
    rw [← hA]
    simp only [List.getElem?_toArray]
    rw [List.append_assoc, List.getElem?_append_left (by simp only [List.length_take, Array.length_toList]; omega), List.getElem?_take, if_pos hi, Array.getElem?_toList]
  have hmid : ∀ i, i < news.length → arr[rows.length * ks.length + i]? = news[i]? := by
    intro i hi
    rw [← hA]
    simp only [List.getElem?_toArray]
    rw [List.append_assoc, List.getElem?_append_right (by simp only [List.length_take, Array.length_toList]; omega)]
    have e1 : rows.length * ks.length + i - (cur.toList.take (rows.length * ks.length)).length = i := by simp only [List.length_take, Array.length_toList]; omega
    rw [e1, List.getElem?_append_left hi]
  have hg' := setRow_heap w g cur arr tag _ hg
  have hsub : Sub x.M (x.withPart g (rows.length * ks.length) news).M := by
    intro b o v hv
    simp only [X.withPart]
    rw [if_neg]
    · exact hv
    · rintro ⟨rfl, h2⟩; rw [hfree o h2] at hv; cases hv
  have hnslot : ∀ k cs, lookup m k = some cs → x.loc k ≠ some g := fun k cs hk => h.tokslot j ⟨g, 0, none⟩ rows.length cap ks.length k cs hj hpos hk
  have hsize : (w.setRow g arr).heap.size = w.heap.size := by simp [World.setRow]
  have h1 : Inv e (x.withPart g (rows.length * ks.length) news) (w.setRow g arr) (scrubM [] [d, j] m) → True := fun _ => trivial
  have hold : ∀ k, k ≠ g → (w.setRow g arr).heap[k]? = w.heap[k]? := fun k hk => setRow_other w g k _ hk
  -- the world, x's tokens as they are but j's (which is struck below)
  have key : Inv e { x.withPart g (rows.length * ks.length) news with tk := fun i => if mem i [d, j] then none else x.tk i } (w.setRow g arr) (scrubM [] [d, j] m) := by
    have hext : Ext x { x.withPart g (rows.length * ks.length) news with tk := fun i => if mem i [d, j] then none else x.tk i } [] [d, j] :=
      ⟨hsub, fun _ _ _ h => h, fun k z hk hz => by simp only [hk]; exact hz, fun _ _ => rfl, rfl⟩
    have hlook : ∀ {k cs}, lookup (scrubM [] [d, j] m) k = some cs → ∃ c0, lookup m k = some c0 ∧ cs = AV.scrubL [] [d, j] c0 := by
      intro k cs hk
      rw [lookup_scrubM] at hk
      obtain ⟨c0, h0, h1⟩ := Option.map_eq_some_iff.1 hk
      exact ⟨c0, h0, h1.symm⟩
    have htk : ∀ {k z}, (if mem k [d, j] then none else x.tk k) = some z → mem k [d, j] = false ∧ x.tk k = some z := by
      intro k z hz
      by_cases hs : mem k [d, j] = true
      · rw [if_pos hs] at hz; cases hz
      · rw [if_neg hs] at hz; exact ⟨by simpa using hs, hz⟩
    have hnj : ∀ {k : Nat}, mem k [d, j] = false → k ≠ j := by intro k hk e; subst e; simp [mem] at hk
    refine ⟨?_, ?_, ?_, ?_, ?_, ?_, h.os, h.tape, h.output, by rw [hsize]; exact h.size, ?_, h.mono.trans hsub, ?_, h.ext, h.low, h.more.step (fun k b cs hk hb => by
      obtain ⟨c0, h0, _⟩ := hlook hk
      exact ⟨c0, h0, hb, rfl⟩) (fun b ar ty hb => by
      by_cases hbg : b = g
      · subst hbg; rw [hg] at hb; cases hb; exact ⟨arr, _, hg', by omega⟩
      · exact ⟨ar, ty, by rw [hold b hbg]; exact hb, Nat.le_refl _⟩) (fun _ _ => rfl) rfl (Nat.le_refl _), h.glob⟩
    · intro b o v hv
      simp only [X.withPart] at hv
      by_cases hb : b = g
      · subst hb
        have hc : (w.setRow b arr).cell? ⟨b, o, none⟩ = arr[o]? := cell_setRow_same w b o cur arr tag _ hg
        rw [hc]
        by_cases ho2 : rows.length * ks.length ≤ o
        · rw [if_pos ⟨rfl, ho2⟩] at hv
          have hlt2 : o - rows.length * ks.length < news.length := (List.getElem?_eq_some_iff.1 hv).1
          have := hmid (o - rows.length * ks.length) hlt2
          rw [show rows.length * ks.length + (o - rows.length * ks.length) = o by omega] at this
          rw [this]; exact hv
        · rw [if_neg (fun h => ho2 h.2)] at hv
          have hcell := h.sub b o v hv
          rw [hpre o (by omega)]
          simpa [World.cell?, hg] using hcell
      · rw [if_neg (fun h => hb h.1)] at hv
        rw [World.cell?_of_block (w := w) (hold b hb)]
        exact h.sub b o v hv
    · intro k cs hk
      obtain ⟨c0, h0, rfl⟩ := hlook hk
      obtain ⟨b, t, a, h2, h3, h4, h5, h6⟩ := h.slot k c0 h0
      have hne : b ≠ g := fun e => hnslot k c0 h0 (by rw [h2, e])
      refine ⟨b, t, a, h2, h3, by rw [hold b hne]; exact h4, h5.scrub hext, fun o => ?_⟩
      simp only [X.withPart]; rw [if_neg (fun h => hne h.1)]; exact h6 o
    · intro k k' cs cs' b hk hk' hb hb'
      obtain ⟨c0, h0, _⟩ := hlook hk
      obtain ⟨c1, h2, _⟩ := hlook hk'
      exact h.inj k k' c0 c1 b h0 h2 hb hb'
    · intro k v sz hk a n c hv hn2
      obtain ⟨hs, hk'⟩ := htk hk
      obtain ⟨cur2, t2, h2, h3, h4, h5, h6, h7, h8⟩ := h.tok k v sz hk' a n c hv hn2
      have hne : a.block ≠ g := fun e => hnj hs (h.toktok k j a n c sz ⟨g, 0, none⟩ rows.length cap ks.length (by rw [hk', hv]) hj hn2 hpos e)
      refine ⟨cur2, t2, h2, h3, h4, by rw [hold _ hne]; exact h5, h6, h7, fun i hi => ?_⟩
      simp only [X.withPart]; rw [if_neg (fun h => hne h.1)]; exact h8 i hi
    · intro k a n c sz i cs hk hn2 hi
      obtain ⟨_, hk'⟩ := htk hk
      obtain ⟨c0, h0, _⟩ := hlook hi
      exact h.tokslot k a n c sz i c0 hk' hn2 h0
    · intro k k' a n c sz a' n' c' sz' hk hk'
      exact h.toktok k k' a n c sz a' n' c' sz' (htk hk).2 (htk hk').2
    · intro b hb hE hL
      have hbg : b ≠ g := by
        rintro rfl
        rcases hbase with h1 | h1
        · omega
        · exact hL h1
      rw [hold b hbg]; exact h.old b hb hE hL
    · intro b o v hv
      simp only [X.withPart] at hv
      by_cases hb : b = g
      · right; rw [hb]; exact hbase
      · rw [if_neg (fun h => hb h.1)] at hv; exact h.new b o v hv
  have hdm : mem d [d, j] = true := by simp [mem]
  refine ⟨{ x.withPart g (rows.length * ks.length) news with tk := fun i => if i = d then some (.slice (some ⟨g, 0, none⟩) (rows.length + rows2.length) cap, ks.length) else if mem i [d, j] then none else x.tk i }, ?_, ?_, ?_⟩
  · refine .sl _ _ _ _ _ ?_ (by simp [RtOk])
    rw [← List.length_append]
    refine .sl ks (rows ++ rows2) ⟨g, 0, none⟩ cap (by simpa using hroom) (fun _ => rfl) ((ho.mono hsub).append (hn.copy hsub fun i v hi hv => ?_))
    simp only [X.withPart]
    rw [if_pos ⟨trivial, by omega⟩]
    have e1 : 0 + rows.length * ks.length + i - rows.length * ks.length = i := by omega
    rw [e1]
    have hi' : i < news.length := by omega
    have := hnv i news[i] (by simp [hi'])
    rw [hv] at this
    rw [List.getElem?_eq_getElem hi']; exact this.symm ▸ rfl
  · have h2 := key.withTok d (.slice (some ⟨g, 0, none⟩) (rows.length + rows2.length) cap) ks.length [d] (by simp [mem]) ?_ ?_ ?_
    · have e1 : ({ x.withPart g (rows.length * ks.length) news with tk := fun i => if mem i [d, j] then none else x.tk i } : X).withTok d (.slice (some ⟨g, 0, none⟩) (rows.length + rows2.length) cap) ks.length [d] =
          { x.withPart g (rows.length * ks.length) news with tk := fun i => if i = d then some (.slice (some ⟨g, 0, none⟩) (rows.length + rows2.length) cap, ks.length) else if mem i [d, j] then none else x.tk i } := by
        simp only [X.withTok]
        congr 1
        funext i
        by_cases hi : i = d
        · simp [hi]
        · have : mem i [d] = false := by
            cases hb : mem i [d] with
            | false => rfl
            | true => exact absurd (by simpa using mem_iff.1 hb) hi
          simp [hi, this]
      rw [e1] at h2
      refine h2.congr fun k => ?_
      rw [lookup_scrubM [] [d], lookup_scrubM]
      cases lookup m k with
      | none => rfl
      | some cs => simp only [Option.map_some]; rw [scrubL_twice [d] [d, j] (by intro k hk; simp only [mem, Bool.or_false] at hk ⊢; simp [hk])]
    · intro a n c hv hn2
      injection hv with h3 h4 h5
      injection h3 with h3
      subst h3; subst h4; subst h5
      refine ⟨arr, tag, rfl, rfl, hbase, hg', hcm, by rw [harr]; exact hsz, fun i hi => ?_⟩
      simp only [X.withPart]
      rw [if_pos ⟨trivial, by rw [Nat.add_mul] at hi; omega⟩, List.getElem?_eq_none]
      rw [Nat.add_mul] at hi; omega
    · intro a n c i cs hv hn2 hi
      injection hv with h3 h4 h5
      injection h3 with h3
      subst h3
      rw [lookup_scrubM] at hi
      obtain ⟨c0, h0, _⟩ := Option.map_eq_some_iff.1 hi
      exact hnslot i c0 h0
    · intro a n c i a' n' c' sz' hv hn2 hs hi hn3 hab
      injection hv with h3 h4 h5
      injection h3 with h3
      subst h3
      simp only at hi
      by_cases hs2 : mem i [d, j] = true
      · rw [if_pos hs2] at hi; cases hi
      · rw [if_neg hs2] at hi
        have := h.toktok i j a' n' c' sz' ⟨g, 0, none⟩ rows.length cap ks.length hi hj hn3 hpos hab.symm
        subst this
        simp [mem] at hs2
  · refine ⟨hsub, fun _ _ _ h => h, fun k z hk hz => ?_, fun _ _ => rfl, rfl⟩
    have : k ≠ d := fun e => by subst e; simp [mem] at hk
    simp only [if_neg this, hk]
    exact hz

theorem run_append_zero {P : Program} (w : World) (t ty el : TypeId) (i : TypeInfo) (ht : P.underlying t = some (.slice el)) (hi : P.info? el = some i) (base : Option Addr) (n c : Nat) (hnc : n ≤ c) (u : Value)
    (hu : u = .slice none 0 0 ∨ ∃ a c2, u = .slice (some a) 0 c2) : (Builtin.append_ #[t, t] ty #[.slice base n c, u]).run P w = .ok (.slice base n c) w := by
  rcases hu with rfl | ⟨a, c2, rfl⟩ <;> cases base <;>
    simp [Builtin.append_, run_underlying ht, sizeOf, typeInfo, hi, Builtin.lenOf, Builtin.firstCells, loadCells, loadCellsFrom, storeCells, hnc]

theorem append_ok {e : Env} {x : X} {w : World} {m : Mem} (h : Inv e x w m) {d : Nat} {n n2 : Bool} {ks : List Kd} {rows rows2 : Rows} {r r2 : Right} {str : List Nat} {v u : Value}
    (hs : Rep x (.sl n ks rows r) v) (hu : Rep x (.sl n2 ks rows2 r2) u) (hstr : appendRight d r = some str)
    {t ty el : TypeId} {i : TypeInfo} {z : Value} (ht : e.P.underlying t = some (.slice el)) (hi : e.P.info? el = some i) (hz : i.zero = some z) (hisz : i.size = ks.length) (hzs : z.cells.size = i.size)
    (hby : 0 < i.bytes) (hbytes : (rows.length + rows2.length) * i.bytes ≤ 140737488355328) :
    ∃ v' w' x', (Builtin.append_ #[t, t] ty #[v, u]).run e.P w = .ok v' w' ∧ Rep x' (.sl (n && rows2.isEmpty) ks (rows ++ rows2) (appTok d r rows rows2)) v' ∧ Inv e x' w' (scrubM [] str m) ∧ Ext x x' [] str := by
  have hlen : rows.length + rows2.length ≤ 140737488355328 := Nat.le_trans (Nat.le_mul_of_pos_right _ hby) hbytes
  have h63 : rows.length + rows2.length ≤ maxLen := by unfold maxLen; omega
  have hd : mem d str = true := by
    cases r with
    | no => simp [appendRight] at hstr
    | old => simp [appendRight] at hstr
    | ex => simp only [appendRight, Option.some.injEq] at hstr; subst hstr; simp [mem]
    | tok j => simp only [appendRight, Option.some.injEq] at hstr; subst hstr; simp [mem]
  cases hs with
  | sl _ _ _ _ _ hs hr =>
  cases hu with
  | sl _ _ _ _ _ hu _ =>
  by_cases hm : rows2 = []
  · subst hm
    have hu' : u = .slice none 0 0 ∨ ∃ a c2, u = .slice (some a) 0 c2 := by
      rcases hu.rows with ⟨_, _, rfl⟩ | ⟨a, c2, _, rfl, _⟩
      · exact .inl rfl
      · exact .inr ⟨a, c2, rfl⟩
    obtain ⟨base, c, hv, hc⟩ : ∃ base c, v = .slice base rows.length c ∧ rows.length ≤ c := by
      rcases hs.rows with ⟨_, rfl, rfl⟩ | ⟨a, c, _, rfl, hc, _⟩
      · exact ⟨none, 0, rfl, Nat.le_refl _⟩
      · exact ⟨some a, c, rfl, hc⟩
    have hrun : (Builtin.append_ #[t, t] ty #[v, u]).run e.P w = .ok v w := by rw [hv]; exact run_append_zero w t ty el i ht hi base _ c hc u hu'
    simp only [List.isEmpty_nil, Bool.and_true, List.append_nil]
    cases r with
    | no => simp [appendRight] at hstr
    | old => simp [appendRight] at hstr
    | tok i =>
      refine ⟨v, w, x.withTok d v ks.length str, hrun, .sl _ _ _ _ _ hs (by simp [RtOk, X.withTok, appTok]), h.withTok d v ks.length str hd (h.tok i v _ hr) ?_ ?_, Ext.withTok x d v ks.length str hd⟩
      · intro a n' c' j cs h1 h2 h3
        exact h.tokslot i a n' c' _ j cs (by rw [← h1]; exact hr) h2 h3
      · intro a n' c' j a' n2' c2' sz' h1 h2 h3 h4 h5 h6
        simp only [appendRight, Option.some.injEq] at hstr
        subst hstr
        have := h.toktok i j a n' c' _ a' n2' c2' sz' (by rw [← h1]; exact hr) h4 h2 h5 h6
        subst this
        simp [mem] at h3
    | ex =>
      obtain ⟨a', n', hv'⟩ := hr
      by_cases hre : rows = []
      · subst hre
        have hzero : ∀ a n c, v = .slice (some a) n c → ¬ 0 < c := by
          intro a n2 c2 h1 h2
          rw [hv'] at h1 hv
          injection hv with _ h3 h4
          injection h1 with _ h5 h6
          simp only [List.length_nil] at h3
          omega
        exact ⟨v, w, x.withTok d v ks.length str, hrun, .sl _ _ _ _ _ hs (by simp [RtOk, X.withTok, appTok]), h.withTok d v ks.length str hd (fun a n c h1 h2 => absurd h2 (hzero a n c h1)) (fun a n c j cs h1 h2 => absurd h2 (hzero a n c h1)) (fun a n c j a' n' c' sz' h1 h2 => absurd h2 (hzero a n c h1)), Ext.withTok x d v ks.length str hd⟩
      · have hne : rows.isEmpty = false := by cases rows with | nil => exact absurd rfl hre | cons => rfl
        have hna : ∀ a n c, (Value.slice none 0 0) ≠ .slice (some a) n c := fun a n c h => by injection h with h1; cases h1
        exact ⟨v, w, x.withTok d (.slice none 0 0) ks.length str, hrun, .sl _ _ _ _ _ hs (by simp [RtOk, appTok, hne]), h.withTok d (.slice none 0 0) ks.length str hd (fun a n c h1 => absurd h1 (hna a n c)) (fun a n c j cs h1 => absurd h1 (hna a n c)) (fun a n c j a' n' c' sz' h1 => absurd h1 (hna a n c)), Ext.withTok x d _ ks.length str hd⟩
  · have hemp : rows2.isEmpty = false := by cases rows2 with | nil => exact absurd rfl hm | cons => rfl
    have hpos : 0 < rows2.length := by cases rows2 with | nil => exact absurd rfl hm | cons => simp
    rcases hu.rows with ⟨_, h1, _⟩ | ⟨a2, c2, _, rfl, hc2, hsp2, hr2⟩
    · exact absurd h1 hm
    obtain ⟨news, hnl, hnv, hn1, hncell⟩ := cells_of_rows h hsp2 hr2
    have happ : appTok d r rows rows2 = .tok d := by
      cases r with
      | no => simp [appendRight] at hstr
      | old => simp [appendRight] at hstr
      | ex => simp [appTok, hemp]
      | tok j => rfl
    rw [hemp, Bool.and_false, happ]
    rcases hs.rows with ⟨_, rfl, rfl⟩ | ⟨a, c, _, rfl, hc, hsp, hro⟩
    · have hrun := run_append_nil (P := e.P) w t ty el i z ht hi hz a2 rows2.length c2 news (by rw [hisz]; exact hnl) hncell hpos (by simp only [List.length_nil] at hlen; omega) (by simp only [List.length_nil, Nat.zero_add] at hbytes; omega)
      have hge := grownCap_ge w rows2.length 0 el
      have hcm := grownCap_le_maxLen w rows2.length 0 el (by simp only [List.length_nil, Nat.zero_add] at h63; exact h63)
      obtain ⟨x', q1, q2, q3⟩ := append_grown h d str hd ks [] rows2 news [] 0 0 a2.block a2.off (.nil 0 0 ks) hr2 (by simp) hnl (by simp) hnv (grownCap w rows2.length 0 el) (by simpa using hge) hcm
        (news.toArray ++ Builtin.zeroCells z.cells (grownCap w rows2.length 0 el - rows2.length)) el
        (by simp only [Array.size_append, List.size_toArray, size_zeroCells, hzs, hisz, hnl, ← Nat.add_mul]; congr 1; omega)
        (by simp only [Array.toList_append, List.nil_append]; exact List.take_left)
      simp only [List.length_nil, Nat.zero_add] at q1
      exact ⟨_, _, x', hrun, q1, q2, q3⟩
    · obtain ⟨olds, hol, hov, ho1, hocell⟩ := cells_of_rows h hsp hro
      by_cases hroom : rows.length + rows2.length ≤ c
      · cases r with
        | no => simp [appendRight] at hstr
        | old => simp [appendRight] at hstr
        | ex => obtain ⟨a', n', h1⟩ := hr; injection h1 with _ h3 h4; omega
        | tok j =>
          simp only [appendRight, Option.some.injEq] at hstr
          subst hstr
          obtain ⟨cur, tag, h1, h2, h3, h4, h5, h6, h7⟩ := h.tok j _ _ hr a rows.length c rfl (by omega)
          obtain ⟨g, off, sp⟩ := a
          simp only at h1 h2
          subst h1; subst h2
          have hfit : rows.length * i.size + news.length ≤ cur.size := by rw [hnl, hisz, ← Nat.add_mul]; exact Nat.le_trans (Nat.mul_le_mul_right _ hroom) h6
          have hrun := run_append_place (P := e.P) w t ty el i ht hi g rows.length c cur tag h4 a2 rows2.length c2 news (by rw [hisz]; exact hnl) hncell hn1 hroom hfit
          rw [hisz] at hrun
          obtain ⟨x', q1, q2, q3⟩ := append_place h d j ks rows rows2 news g c cur tag a2.block a2.off hr (by omega) h4 h5 h6 h7 h3 hro hr2 hnl hnv hroom
          exact ⟨_, _, x', hrun, q1, q2, q3⟩
      · have hrun := run_append_grow (P := e.P) w t ty el i z ht hi hz a rows.length c olds (by rw [hisz]; exact hol) hocell a2 rows2.length c2 news (by rw [hisz]; exact hnl) hncell (by omega) (by omega) (growslice_fits (by omega) hbytes)
        have hge := grownCap_ge w (rows.length + rows2.length) c el
        have hcm := grownCap_le_maxLen w (rows.length + rows2.length) c el h63
        obtain ⟨x', q1, q2, q3⟩ := append_grown h d str hd ks rows rows2 news olds a.block a.off a2.block a2.off hro hr2 hol hnl hov hnv (grownCap w (rows.length + rows2.length) c el) hge hcm
          (olds.toArray ++ news.toArray ++ Builtin.zeroCells z.cells (grownCap w (rows.length + rows2.length) c el - (rows.length + rows2.length))) el
          (by simp only [Array.size_append, List.size_toArray, size_zeroCells, hzs, hisz, hnl, hol, ← Nat.add_mul]; congr 1; omega)
          (by simp only [Array.toList_append]; exact List.take_left)
        exact ⟨_, _, x', hrun, q1, q2, q3⟩
end Go.Den
