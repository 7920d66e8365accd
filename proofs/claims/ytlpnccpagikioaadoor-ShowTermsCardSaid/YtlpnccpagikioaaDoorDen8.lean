import Derived.Test.YtlpnccpagikioaaDoorDen7
set_option linter.unusedVariables false
set_option linter.unusedSimpArgs false
set_option linter.unusedSectionVars false
/- Calls. -/
namespace Go.Den

theorem lookup_zipExt : ∀ (ext : List (List AV)) (i k : Nat), lookup (zipExt i ext) k = if i ≤ k then ext[k - i]? else none
  | [], i, k => by simp [zipExt, lookup]
  | cs :: ext, i, k => by
    simp only [zipExt, lookup, beq_eq, lookup_zipExt ext (i + 1) k]
    by_cases h : i = k
    · subst h; simp
    · by_cases h2 : i ≤ k
      · have h3 : i + 1 ≤ k := by omega
        simp only [if_neg h, if_pos h2, if_pos h3]
        have : k - i = (k - (i + 1)) + 1 := by omega
        rw [this]; simp
      · have h3 : ¬ i + 1 ≤ k := by omega
        simp only [if_neg h, if_neg h2, if_neg h3]

theorem index_get : ∀ {ks : List Nat} {k : Nat}, mem k ks = true → ks[index k ks]? = some k
  | [], k, h => by simp [mem] at h
  | j :: ks, k, h => by
    simp only [mem, Bool.or_eq_true, beq_eq] at h
    simp only [index, beq_eq]
    by_cases hj : j = k
    · simp [hj]
    · rw [if_neg hj]
      simpa using index_get (h.resolve_left hj)

theorem dedup_mem : ∀ {l : List Nat} {k : Nat}, mem k (dedup l) = true ↔ mem k l = true
  | [], k => Iff.rfl
  | j :: l, k => by
    simp only [dedup]
    split
    · rename_i h
      rw [dedup_mem]
      simp only [mem, Bool.or_eq_true, beq_eq]
      constructor
      · exact .inr
      · rintro (rfl | h')
        · exact dedup_mem.1 h
        · exact h'
    · simp only [mem, Bool.or_eq_true, dedup_mem]
theorem dedup_nodup : ∀ (l : List Nat), (dedup l).Nodup
  | [] => List.nodup_nil
  | j :: l => by
    simp only [dedup]
    split
    · exact dedup_nodup l
    · rename_i h
      exact List.nodup_cons.2 ⟨fun hm => h (mem_iff.2 hm), dedup_nodup l⟩

theorem cellsOf_get {m : Mem} {qs : List Nat} : ∀ {ks : List Nat} {ext : List (List AV)}, cellsOf m qs ks = some ext → ext.length = ks.length ∧ ∀ (i k : Nat), ks[i]? = some k → ∃ cs, lookup m k = some cs ∧ ext[i]? = some (AV.passL qs cs)
  | [], ext, h => by simp only [cellsOf, Option.some.injEq] at h; subst h; simp
  | k :: ks, ext, h => by
    simp only [cellsOf] at h
    split at h
    · rename_i cs hcs
      split at h
      · rename_i r hr
        cases h
        obtain ⟨h1, h2⟩ := cellsOf_get hr
        refine ⟨by simp [h1], ?_⟩
        intro i j hj
        cases i with
        | zero => simp at hj; subst hj; exact ⟨cs, hcs, rfl⟩
        | succ i => simpa using h2 i j (by simpa using hj)
      · cases h
    · cases h

/-- What the callee knows. -/
def X.callee (x : X) (ks : List Nat) : X := { M := x.M, loc := fun k => if 1000 ≤ k then (ks[k - 1000]?).bind x.loc else none, tk := fun _ => none, cap := fun k => if 1000 ≤ k then ((ks[k - 1000]?).map x.cap).getD 0 else 0, M0 := x.M }

mutual
theorem Rep.pass {x : X} {ks : List Nat} : ∀ {a v}, Rep x a v → Rep (x.callee ks) (AV.pass ks a) v
  | _, _, .dv d v h => by unfold AV.pass; exact .dv d v h
  | _, _, .sl n kd rows r v h hr => by
    unfold AV.pass
    refine .sl n kd rows _ v h ?_
    cases r with
    | no => trivial
    | ex => exact hr
    | tok k => trivial
    | old => trivial
  | _, _, .agg cs vs h => by unfold AV.pass; exact .agg _ vs (RepL.pass h)
  | _, _, .tup cs vs h => by unfold AV.pass; exact .junk _
  | _, _, .pl k off b h => by
    unfold AV.pass
    by_cases hm : mem k ks = true
    · rw [if_pos hm]
      refine .pl _ _ _ ?_
      simp only [X.callee]
      rw [if_pos (by omega), Nat.add_sub_cancel_left, index_get hm]; exact h
    · rw [if_neg hm]; exact .junk _
  | _, _, .pv kd row off b o h1 h2 => by unfold AV.pass; exact .pv kd row off b o h1 h2
  | _, _, .fn f cs vs h => by unfold AV.pass; exact .fn f _ vs (RepL.pass h)
  | _, _, .ifc t a v h => by unfold AV.pass; exact .ifc t _ v (Rep.pass h)
  | _, _, .ms k kd off n c b o c' h g1 g2 g3 => by
    unfold AV.pass
    by_cases hm : mem k ks = true
    · rw [if_pos hm]
      have hcap : (x.callee ks).cap (1000 + index k ks) = x.cap k := by
        simp only [X.callee]
        rw [if_pos (by omega), Nat.add_sub_cancel_left, index_get hm]; rfl
      refine .ms _ _ _ _ _ _ _ _ ?_ g1 g2 (by rw [hcap]; exact g3)
      simp only [X.callee]
      rw [if_pos (by omega), Nat.add_sub_cancel_left, index_get hm]; exact h
    · rw [if_neg hm]; exact .junk _
  | _, _, .pa k kd i j b h => by
    unfold AV.pass
    by_cases hm : mem k ks = true
    · rw [if_pos hm]
      refine .pa _ _ _ _ _ ?_
      simp only [X.callee]
      rw [if_pos (by omega), Nat.add_sub_cancel_left, index_get hm]; exact h
    · rw [if_neg hm]; exact .junk _
  | _, _, .junk v => by unfold AV.pass; exact .junk v
theorem RepL.pass {x : X} {ks : List Nat} : ∀ {l vs}, RepL x l vs → RepL (x.callee ks) (AV.passL ks l) vs
  | _, _, .nil => by unfold AV.passL; exact .nil
  | _, _, .cons a v l vs ha hl => by unfold AV.passL; exact .cons _ _ _ _ (Rep.pass ha) (RepL.pass hl)
end

/-- What the caller knows then. -/
structure Back (x xc x' : X) (ks : List Nat) (d : Nat) : Prop where
  M : x'.M = xc.M
  loc : ∀ k b j, 1000 ≤ k → xc.loc k = some b → ks[k - 1000]? = some j → x'.loc j = some b
  tk : ∀ i z, i < 8 → xc.tk i = some z → x'.tk (1000 + 8 * d + i) = some z
  cap : ∀ k j, 1000 ≤ k → ks[k - 1000]? = some j → x'.cap j = xc.cap k

mutual
theorem Rep.back {x xc x' : X} {ks : List Nat} {d : Nat} (h : Back x xc x' ks d) : ∀ {a v}, Rep xc a v → Rep x' (AV.back ks d a) v
  | _, _, .dv q v hd => by unfold AV.back; exact .dv q v (by rw [h.M]; exact hd)
  | _, _, .sl n kd rows r v hd hr => by
    cases r with
    | no => simp only [AV.back]; exact .sl n kd rows _ v (by rw [h.M]; exact hd) trivial
    | ex => simp only [AV.back]; exact .sl n kd rows _ v (by rw [h.M]; exact hd) hr
    | old => simp only [AV.back]; exact .sl n kd rows _ v (by rw [h.M]; exact hd) trivial
    | tok i =>
      simp only [AV.back]
      refine .sl n kd rows _ v (by rw [h.M]; exact hd) ?_
      by_cases hi : i < 8
      · have : Nat.blt i 8 = true := by simpa using hi
        rw [if_pos this]; exact h.tk i _ hi hr
      · have : ¬ Nat.blt i 8 = true := by simpa using hi
        rw [if_neg this]; trivial
  | _, _, .agg cs vs hl => by unfold AV.back; exact .agg _ vs (RepL.back h hl)
  | _, _, .tup cs vs hl => by unfold AV.back; exact .tup _ vs (RepL.back h hl)
  | _, _, .pl k off b hk => by
    simp only [AV.back]
    split
    · rename_i hle
      simp only [Nat.ble_eq] at hle
      split
      · rename_i j hj; exact .pl j off b (h.loc k b j hle hk hj)
      · exact .junk _
    · exact .junk _
  | _, _, .pv kd row off b o h1 h2 => by unfold AV.back; exact .pv kd row off b o h1 (by rw [h.M]; exact h2)
  | _, _, .fn f cs vs hl => by unfold AV.back; exact .fn f _ vs (RepL.back h hl)
  | _, _, .ifc t a v ha => by unfold AV.back; exact .ifc t _ v (Rep.back h ha)
  | _, _, .ms k kd off n c b o c' hk g1 g2 g3 => by
    simp only [AV.back]
    split
    · rename_i hle
      simp only [Nat.ble_eq] at hle
      split
      · rename_i j hj; exact .ms j kd off n c b o c' (h.loc k b j hle hk hj) g1 g2 (by rw [h.cap k j hle hj]; exact g3)
      · exact .junk _
    · exact .junk _
  | _, _, .pa k kd i q b hk => by
    simp only [AV.back]
    split
    · rename_i hle
      simp only [Nat.ble_eq] at hle
      split
      · rename_i j hj; exact .pa j kd i q b (h.loc k b j hle hk hj)
      · exact .junk _
    · exact .junk _
  | _, _, .junk v => by unfold AV.back; exact .junk v
theorem RepL.back {x xc x' : X} {ks : List Nat} {d : Nat} (h : Back x xc x' ks d) : ∀ {l vs}, RepL xc l vs → RepL x' (AV.backL ks d l) vs
  | _, _, .nil => by unfold AV.backL; exact .nil
  | _, _, .cons a v l vs ha hl => by unfold AV.backL; exact .cons _ _ _ _ (Rep.back h ha) (RepL.back h hl)
end

theorem Cont.back {x xc x' : X} {ks : List Nat} {d : Nat} (h : Back x xc x' ks d) {cs : List AV} {l : List Value} (hc : Cont xc cs l) : Cont x' (AV.backL ks d cs) l := by
  rcases hc with hc | ⟨kd, rows, rfl, hc⟩
  · exact .inl (hc.back h)
  · exact .inr ⟨kd, rows, by simp [AV.backL, AV.back], by rw [h.M]; exact hc⟩
theorem Cont.pass {x : X} {ks : List Nat} {cs : List AV} {l : List Value} (hc : Cont x cs l) : Cont (x.callee ks) (AV.passL ks cs) l := by
  rcases hc with hc | ⟨kd, rows, rfl, hc⟩
  · exact .inl hc.pass
  · exact .inr ⟨kd, rows, by simp [AV.passL, AV.pass], hc⟩

mutual
theorem Rep.passT {x : X} {ks : List Nat} (tk : Nat → Option (Value × Nat)) : ∀ {a v}, Rep x a v → Rep { x.callee ks with tk := tk } (AV.pass ks a) v
  | _, _, .dv d v h => by unfold AV.pass; exact .dv d v h
  | _, _, .sl n kd rows r v h hr => by
    unfold AV.pass
    refine .sl n kd rows _ v h ?_
    cases r with
    | no => trivial
    | ex => exact hr
    | tok k => trivial
    | old => trivial
  | _, _, .agg cs vs h => by unfold AV.pass; exact .agg _ vs (RepL.passT tk h)
  | _, _, .tup cs vs h => by unfold AV.pass; exact .junk _
  | _, _, .pl k off b h => by
    have := Rep.pass (ks := ks) (.pl k off b h)
    unfold AV.pass at this ⊢
    by_cases hm : mem k ks = true
    · rw [if_pos hm] at this ⊢; cases this with | pl _ _ _ h => exact .pl _ _ _ h
    · rw [if_neg hm]; exact .junk _
  | _, _, .pv kd row off b o h1 h2 => by unfold AV.pass; exact .pv kd row off b o h1 h2
  | _, _, .fn f cs vs h => by unfold AV.pass; exact .fn f _ vs (RepL.passT tk h)
  | _, _, .ifc t a v h => by unfold AV.pass; exact .ifc t _ v (Rep.passT tk h)
  | _, _, .ms k kd off n c b o c' h g1 g2 g3 => by
    have := Rep.pass (ks := ks) (.ms k kd off n c b o c' h g1 g2 g3)
    unfold AV.pass at this ⊢
    by_cases hm : mem k ks = true
    · rw [if_pos hm] at this ⊢; cases this with | ms _ _ _ _ _ _ _ _ h1 h2 h3 h4 => exact .ms _ _ _ _ _ _ _ _ h1 h2 h3 h4
    · rw [if_neg hm]; exact .junk _
  | _, _, .pa k kd i j b h => by
    have := Rep.pass (ks := ks) (.pa k kd i j b h)
    unfold AV.pass at this ⊢
    by_cases hm : mem k ks = true
    · rw [if_pos hm] at this ⊢; cases this with | pa _ _ _ _ _ h => exact .pa _ _ _ _ _ h
    · rw [if_neg hm]; exact .junk _
  | _, _, .junk v => by unfold AV.pass; exact .junk v
theorem RepL.passT {x : X} {ks : List Nat} (tk : Nat → Option (Value × Nat)) : ∀ {l vs}, RepL x l vs → RepL { x.callee ks with tk := tk } (AV.passL ks l) vs
  | _, _, .nil => by unfold AV.passL; exact .nil
  | _, _, .cons a v l vs ha hl => by unfold AV.passL; exact .cons _ _ _ _ (Rep.passT tk ha) (RepL.passT tk hl)
end
theorem Cont.passT {x : X} {ks : List Nat} (tk : Nat → Option (Value × Nat)) {cs : List AV} {l : List Value} (hc : Cont x cs l) : Cont { x.callee ks with tk := tk } (AV.passL ks cs) l := by
  rcases hc with hc | ⟨kd, rows, rfl, hc⟩
  · exact .inl (hc.passT tk)
  · exact .inr ⟨kd, rows, by simp [AV.passL, AV.pass], hc⟩

theorem lookup_zipW (ks : List Nat) (d : Nat) : ∀ (l : List Nat) (ext : List (List AV)) (m : Mem), ext.length = l.length → l.Nodup →
    (∀ k, k ∉ l → lookup (writes m (zipW ks d l ext)) k = lookup m k) ∧ ∀ (i k : Nat), l[i]? = some k → ∃ cs, ext[i]? = some cs ∧ lookup (writes m (zipW ks d l ext)) k = some (AV.backL ks d cs)
  | [], ext, m, h, _ => by
    have : ext = [] := List.eq_nil_of_length_eq_zero h
    subst this
    simp [zipW, writes]
  | j :: l, [], m, h, _ => by simp at h
  | j :: l, cs :: ext, m, h, hn => by
    obtain ⟨hj, hn⟩ := List.nodup_cons.1 hn
    obtain ⟨h1, h2⟩ := lookup_zipW ks d l ext (write m j (AV.backL ks d cs)) (by simpa using h) hn
    simp only [zipW, writes]
    constructor
    · intro k hk
      simp only [List.mem_cons, not_or] at hk
      rw [h1 k hk.2, lookup_write, if_neg hk.1]
    · intro i k hk
      cases i with
      | zero =>
        simp at hk; subst hk
        exact ⟨cs, rfl, by rw [h1 j hj, lookup_write, if_pos rfl]⟩
      | succ i => simpa using h2 i k (by simpa using hk)

/-- Behind a call: the caller's world. -/
theorem Inv.behind {e : Env} {x xc : X} {w w' : World} {m : Mem} (h : Inv e x w m) {ks : List Nat} (hks : ks.Nodup) {ext ext' : List (List AV)} (hcells : cellsOf m ks ks = some ext) (hlen : ext'.length = ext.length)
    {E : List Nat} (hE : ∀ b, b ∈ E → ∃ k cs, lookup m k = some cs ∧ x.loc k = some b ∧ k ∈ ks)
    {ktk : Nat → Option (Value × Nat)} {L : List Nat} (hc : Inv ⟨e.P, w, { x.callee ks with tk := ktk }, E, [], L⟩ xc w' (zipExt 1000 ext')) (d : Nat) (str : List Nat) (tk' : Nat → Option (Value × Nat))
    (hnew : ∀ j z, tk' j = some z → (mem j str = true ∧ ∃ i, xc.tk i = some z ∧ j = 1000 + 8 * d + i) ∨ (mem j str = false ∧ x.tk j = some z)) 
    (hkeep : ∀ j z, mem j str = false → x.tk j = some z → tk' j = some z) (hback : ∀ i z, i < 8 → xc.tk i = some z → tk' (1000 + 8 * d + i) = some z )
    (hL : ∀ b, b ∈ L → ∃ j a n c sz, b = a.block ∧ mem j str = true ∧ x.tk j = some (.slice (some a) n c, sz) ∧ 0 < c) :
    Inv e { M := xc.M, loc := x.loc, tk := tk', cap := x.cap, M0 := x.M0 } w' (writes (scrubM [] str m) (zipW ks d ks ext')) ∧ Ext x { M := xc.M, loc := x.loc, tk := tk', cap := x.cap, M0 := x.M0 } [] str ∧ Back x xc { M := xc.M, loc := x.loc, tk := tk', cap := x.cap, M0 := x.M0 } ks d := by
  obtain ⟨hl1, hget⟩ := cellsOf_get hcells
  obtain ⟨hz1, hz2⟩ := lookup_zipW ks d ks ext' (scrubM [] str m) (by omega) hks
  have hext : Ext x { M := xc.M, loc := x.loc, tk := tk', cap := x.cap, M0 := x.M0 } [] str := ⟨hc.mono, fun _ _ _ h => h, hkeep, fun _ _ => rfl, rfl⟩
  have hloc : ∀ k b j, 1000 ≤ k → xc.loc k = some b → ks[k - 1000]? = some j → x.loc j = some b := by
    intro k b j hk hb hj
    have := hc.ext k hk
    simp only [X.callee, if_pos hk, hj, Option.bind_some] at this
    rw [← this]; exact hb
  have hbk : Back x xc { M := xc.M, loc := x.loc, tk := tk', cap := x.cap, M0 := x.M0 } ks d := ⟨rfl, hloc, hback, fun k j hk hj => by
    have := hc.more.ext k hk
    simp only [X.callee, if_pos hk, hj, Option.map_some, Option.getD_some] at this
    exact this.symm⟩
  have hLslot : ∀ b, b ∈ L → ∀ k cs, lookup m k = some cs → x.loc k ≠ some b := by
    intro b hb k cs hk
    obtain ⟨j, a, n, c, sz, rfl, _, hj, hpos⟩ := hL b hb
    exact h.tokslot j a n c sz k cs hj hpos hk
  have hLtok : ∀ b, b ∈ L → ∀ j a n c sz, mem j str = false → x.tk j = some (.slice (some a) n c, sz) → 0 < c → a.block ≠ b := by
    intro b hb j a n c sz hjs hj hpos hab
    obtain ⟨j', a', n', c', sz', rfl, hjs', hj', hpos'⟩ := hL b hb
    have := h.toktok j j' a n c sz a' n' c' sz' hj hj' hpos hpos' hab
    subst this
    rw [hjs] at hjs'; cases hjs'
  have hLbase : ∀ b, b ∈ L → e.w0.heap.size ≤ b ∨ b ∈ e.L := by
    intro b hb
    obtain ⟨j, a, n, c, sz, rfl, _, hj, hpos⟩ := hL b hb
    obtain ⟨_, _, _, _, p3, _⟩ := h.tok j _ sz hj a n c rfl hpos
    exact p3
  have hLlt : ∀ b, b ∈ L → b < w.heap.size := by
    intro b hb
    obtain ⟨j, a, n, c, sz, rfl, _, hj, hpos⟩ := hL b hb
    exact h.tokLt hj hpos
  have hsame : ∀ b, b < w.heap.size → b ∉ E → b ∉ L → w'.heap[b]? = w.heap[b]? := hc.old
  have hnoM : ∀ b o, b < w.heap.size → b ∉ L → x.M b o = none → xc.M b o = none := by
    intro b o hb hbL hn
    cases hm : xc.M b o with
    | none => rfl
    | some v =>
      rcases hc.new b o v hm with h1 | h1
      · rw [show (x.callee ks).M b o = x.M b o from rfl, hn] at h1; cases h1
      · simp only at h1; rcases h1 with h1 | h1
        · omega
        · exact absurd h1 hbL
  have hslotE : ∀ k cs b, lookup m k = some cs → x.loc k = some b → k ∉ ks → b ∉ E := by
    intro k cs b hk hb hn hE'
    obtain ⟨k', cs', h1, h2, h3⟩ := hE b hE'
    exact hn (h.inj k k' cs cs' b hk h1 hb h2 ▸ h3)
  have htokE : ∀ k a n c sz, x.tk k = some (.slice (some a) n c, sz) → 0 < c → a.block ∉ E := by
    intro k a n c sz hk hn hE'
    obtain ⟨k', cs', h1, h2, h3⟩ := hE a.block hE'
    exact h.tokslot k a n c sz k' cs' hk hn h1 h2
  -- slots
  have hslot : ∀ k cs, lookup (writes (scrubM [] str m) (zipW ks d ks ext')) k = some cs →
      (∃ (i : Nat) (cs1 : List AV), ks[i]? = some k ∧ ext'[i]? = some cs1 ∧ cs = AV.backL ks d cs1) ∨ (k ∉ ks ∧ ∃ cs0, lookup m k = some cs0 ∧ cs = AV.scrubL [] str cs0) := by
    intro k cs hk
    by_cases hm : k ∈ ks
    · obtain ⟨i, hi⟩ := List.getElem?_of_mem hm
      obtain ⟨c1, h1, h2⟩ := hz2 i k hi
      rw [h2] at hk
      exact .inl ⟨i, c1, hi, h1, (Option.some.inj hk).symm⟩
    · rw [hz1 k hm, lookup_scrubM] at hk
      obtain ⟨c0, h0, h1⟩ := Option.map_eq_some_iff.1 hk
      exact .inr ⟨hm, c0, h0, h1.symm⟩
  have hsl0 : ∀ k cs, lookup (writes (scrubM [] str m) (zipW ks d ks ext')) k = some cs → ∃ cs0, lookup m k = some cs0 := by
    intro k cs hk
    rcases hslot k cs hk with ⟨i, c1, h1, _⟩ | ⟨_, c0, h0, _⟩
    · obtain ⟨c0, h0, _⟩ := hget i k h1; exact ⟨c0, h0⟩
    · exact ⟨c0, h0⟩
  refine ⟨⟨hc.sub, ?_, ?_, ?_, ?_, ?_, hc.os.trans h.os, hc.tape.trans h.tape, hc.output.trans h.output, Nat.le_trans h.size hc.size, ?_, h.mono.trans hc.mono, ?_, h.ext, h.low, ?_, h.glob⟩, hext, hbk⟩
  · intro k cs hk
    rcases hslot k cs hk with ⟨i, c1, h1, h2, rfl⟩ | ⟨hm, c0, h0, rfl⟩
    · obtain ⟨c0, h0, _⟩ := hget i k h1
      obtain ⟨b, ty, arr, p1, p2, p3, p4, p5⟩ := hc.slot (1000 + i) c1 (by rw [lookup_zipExt, if_pos (by omega), Nat.add_sub_cancel_left]; exact h2)
      have hb : x.loc k = some b := hloc (1000 + i) b k (by omega) p1 (by rw [Nat.add_sub_cancel_left]; exact h1)
      obtain ⟨b', _, _, q1, q2, _⟩ := h.slot k c0 h0
      rw [hb] at q1
      obtain rfl := Option.some.inj q1
      exact ⟨b, ty, arr, hb, q2, p3, p4.back hbk, p5⟩
    · obtain ⟨b, ty, arr, p1, p2, p3, p4, p5⟩ := h.slot k c0 h0
      have hlt := (Array.getElem?_eq_some_iff.1 p3).1
      have hbL : b ∉ L := fun hb => hLslot b hb k c0 h0 p1
      exact ⟨b, ty, arr, p1, p2, by rw [hsame b hlt (hslotE k c0 b h0 p1 hm) hbL]; exact p3, p4.scrub hext, fun o => hnoM b o hlt hbL (p5 o)⟩
  · intro k k' cs cs' b hk hk' hb hb'
    obtain ⟨c0, h0⟩ := hsl0 k cs hk
    obtain ⟨c1, h1⟩ := hsl0 k' cs' hk'
    exact h.inj k k' c0 c1 b h0 h1 hb hb'
  · intro j v sz hj a n c hv hn
    rcases hnew j _ hj with ⟨_, i, h1, _⟩ | ⟨hjs, h1⟩
    · obtain ⟨cur, ty, p1, p2, p3, p4, p5, p6, p7⟩ := hc.tok i v sz h1 a n c hv hn
      refine ⟨cur, ty, p1, p2, ?_, p4, p5, p6, p7⟩
      rcases p3 with p3 | p3
      · exact .inl (Nat.le_trans h.size p3)
      · exact hLbase _ p3
    · obtain ⟨cur, ty, p1, p2, p3, p4, p5, p6, p7⟩ := h.tok j v sz h1 a n c hv hn
      have hlt := (Array.getElem?_eq_some_iff.1 p4).1
      have hbL : a.block ∉ L := fun hb => hLtok _ hb j a n c sz hjs (by rw [← hv]; exact h1) hn rfl
      exact ⟨cur, ty, p1, p2, p3, by rw [hsame a.block hlt (htokE j a n c sz (by rw [← hv]; exact h1) hn) hbL]; exact p4, p5, p6, fun i hi => hnoM a.block i hlt hbL (p7 i hi)⟩
  · intro j a n c sz k cs hj hn hk hl
    obtain ⟨c0, h0⟩ := hsl0 k cs hk
    rcases hnew j _ hj with ⟨_, i, h1, _⟩ | ⟨hjs, h1⟩
    · obtain ⟨cur, ty, p1, p2, p3, p4, p5, p6, p7⟩ := hc.tok i _ sz h1 a n c rfl hn
      obtain ⟨b, _, _, q1, _, q3, _⟩ := h.slot k c0 h0
      have hlt := (Array.getElem?_eq_some_iff.1 q3).1
      have hl' : x.loc k = some a.block := hl
      rw [q1] at hl'
      have := Option.some.inj hl'
      simp only at p3
      rcases p3 with p3 | p3
      · omega
      · exact hLslot _ p3 k c0 h0 hl
    · exact h.tokslot j a n c sz k c0 h1 hn h0 hl
  · intro j j' a n c sz a' n' c' sz' hj hj' hn hn' hab
    rcases hnew j _ hj with ⟨_, i, h1, hji⟩ | ⟨hjs, h1⟩
    · rcases hnew j' _ hj' with ⟨_, i', h2, hji'⟩ | ⟨hjs', h2⟩
      · have := hc.toktok i i' a n c sz a' n' c' sz' h1 h2 hn hn' hab
        omega
      · obtain ⟨_, _, _, _, p3, _⟩ := hc.tok i _ sz h1 a n c rfl hn
        have := h.tokLt h2 hn'
        simp only at p3
        rcases p3 with p3 | p3
        · omega
        · exact absurd hab.symm (hLtok _ p3 j' a' n' c' sz' hjs' h2 hn')
    · rcases hnew j' _ hj' with ⟨_, i', h2, hji'⟩ | ⟨_, h2⟩
      · obtain ⟨_, _, _, _, p3, _⟩ := hc.tok i' _ sz' h2 a' n' c' rfl hn'
        have := h.tokLt h1 hn
        simp only at p3
        rcases p3 with p3 | p3
        · omega
        · exact absurd hab (hLtok _ p3 j a n c sz hjs h1 hn)
      · exact h.toktok j j' a n c sz a' n' c' sz' h1 h2 hn hn' hab
  · intro b hb hbE hbL
    have hnL : b ∉ L := by
      intro hb'
      rcases hLbase b hb' with h1 | h1
      · omega
      · exact hbL h1
    have hnE : b ∉ E := by
      intro hE'
      obtain ⟨k', cs', h1, h2, h3⟩ := hE b hE'
      obtain ⟨b', _, _, q1, q2, _⟩ := h.slot k' cs' h1
      rw [h2] at q1
      obtain rfl := Option.some.inj q1
      rcases q2 with q2 | q2
      · omega
      · exact hbE q2.1
    rw [hsame b (by have := h.size; omega) hnE hnL]; exact h.old b hb hbE hbL
  · intro b o v hv
    rcases hc.new b o v hv with h1 | h1
    · exact h.new b o v h1
    · right; simp only at h1; rcases h1 with h1 | h1
      · left; have := h.size; omega
      · exact hLbase b h1
  · refine ⟨fun k b cs hk hb => ?_, h.more.ext, h.more.M0, Nat.le_trans h.more.drawn hc.more.drawn⟩
    rcases hslot k cs hk with ⟨i, c1, h1, h2, rfl⟩ | ⟨hm, c0, h0, rfl⟩
    · have hz : lookup (zipExt 1000 ext') (1000 + i) = some c1 := by rw [lookup_zipExt, if_pos (by omega), Nat.add_sub_cancel_left]; exact h2
      obtain ⟨b', ty, arr, p1, p2, p3, p4, p5⟩ := hc.slot (1000 + i) c1 hz
      have hb' : x.loc k = some b' := hloc (1000 + i) b' k (by omega) p1 (by rw [Nat.add_sub_cancel_left]; exact h1)
      have hb : x.loc k = some b := hb
      rw [hb] at hb'
      obtain rfl := Option.some.inj hb'
      obtain ⟨arr', ty', q1, q2⟩ := hc.more.room (1000 + i) b c1 hz p1
      refine ⟨arr', ty', q1, ?_⟩
      have := hbk.cap (1000 + i) k (by omega) (by rw [Nat.add_sub_cancel_left]; exact h1)
      rw [this]; exact q2
    · obtain ⟨b', ty, arr, p1, p2, p3, p4, p5⟩ := h.slot k c0 h0
      have hb : x.loc k = some b := hb
      rw [hb] at p1
      obtain rfl := Option.some.inj p1
      obtain ⟨arr', ty', q1, q2⟩ := h.more.room k b c0 h0 hb
      have hlt := (Array.getElem?_eq_some_iff.1 q1).1
      exact ⟨arr', ty', by rw [hsame b hlt (hslotE k c0 b h0 hb hm) (fun hb' => hLslot b hb' k c0 h0 hb)]; exact q1, q2⟩
end Go.Den
