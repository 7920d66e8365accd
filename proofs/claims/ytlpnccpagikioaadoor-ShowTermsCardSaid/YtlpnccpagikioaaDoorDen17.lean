import Derived.Test.YtlpnccpagikioaaDoorDen16
set_option linter.unusedVariables false
set_option linter.unusedSimpArgs false
set_option linter.unusedSectionVars false
/- Drawn regions, the plain part: effects that may be swapped. -/
namespace Go.Den
variable {P : Program}

theorem sub_iff {l ks : List Nat} : sub l ks = true ↔ ∀ k ∈ l, k ∈ ks := by
  induction l with
  | nil => simp [sub]
  | cons k l ih => simp [sub, mem_iff, ih]
theorem disj_iff {l ks : List Nat} : disj l ks = true ↔ ∀ k ∈ l, k ∉ ks := by
  induction l with
  | nil => simp [disj]
  | cons k l ih =>
    simp only [disj, Bool.and_eq_true, Bool.not_eq_true', ih, List.mem_cons, forall_eq_or_imp]
    rw [← mem_iff, Bool.not_eq_true]
theorem mem_false {k : Nat} {l : List Nat} : mem k l = false ↔ k ∉ l := by rw [← Bool.not_eq_true, mem_iff]

theorem cleanL_iff {p ks : List Nat} : ∀ {l : List AV}, AV.cleanL p ks l = true ↔ ∀ a ∈ l, AV.clean p ks a = true
  | [] => by simp [AV.cleanL]
  | a :: l => by simp [AV.cleanL, cleanL_iff (l := l)]

mutual
theorem scrub_clean {p ks p' ks' : List Nat} (hp : ∀ k ∈ p', k ∈ p) (hk : ∀ k ∈ ks', k ∈ ks) : ∀ {a : AV}, AV.clean p ks a = true → AV.scrub p' ks' a = a
  | .dv d, _ => by unfold AV.scrub; rfl
  | .sl n kd rows r, h => by
    unfold AV.scrub
    cases r with
    | tok k =>
      simp only [AV.clean, Bool.not_eq_true', mem_false] at h
      simp only [Right.scrub]
      rw [if_neg]
      rw [mem_iff]; exact fun hm => h (hk k hm)
    | no => rfl
    | ex => rfl
    | old => rfl
  | .agg cs, h => by unfold AV.scrub; rw [scrubL_clean hp hk (by simpa [AV.clean] using h)]
  | .tup cs, h => by unfold AV.scrub; rw [scrubL_clean hp hk (by simpa [AV.clean] using h)]
  | .pl k off, h => by
    unfold AV.scrub
    simp only [AV.clean, Bool.not_eq_true', mem_false] at h
    rw [if_neg]; rw [mem_iff]; exact fun hm => h (hp k hm)
  | .pv kd row off, _ => by unfold AV.scrub; rfl
  | .fn f cs, h => by unfold AV.scrub; rw [scrubL_clean hp hk (by simpa [AV.clean] using h)]
  | .ifc t v, h => by unfold AV.scrub; rw [scrub_clean hp hk (by simpa [AV.clean] using h)]
  | .ms k kd off n c, h => by
    unfold AV.scrub
    simp only [AV.clean, Bool.not_eq_true', mem_false] at h
    rw [if_neg]; rw [mem_iff]; exact fun hm => h (hp k hm)
  | .pa k kd i j, h => by
    unfold AV.scrub
    simp only [AV.clean, Bool.not_eq_true', mem_false] at h
    rw [if_neg]; rw [mem_iff]; exact fun hm => h (hp k hm)
  | .arr kd rows, _ => by unfold AV.scrub; rfl
  | .junk, _ => by unfold AV.scrub; rfl
theorem scrubL_clean {p ks p' ks' : List Nat} (hp : ∀ k ∈ p', k ∈ p) (hk : ∀ k ∈ ks', k ∈ ks) : ∀ {l : List AV}, AV.cleanL p ks l = true → AV.scrubL p' ks' l = l
  | [], _ => by unfold AV.scrubL; rfl
  | a :: l, h => by
    simp only [AV.cleanL, Bool.and_eq_true] at h
    unfold AV.scrubL; rw [scrub_clean hp hk h.1, scrubL_clean hp hk h.2]
end
mutual
/-- Scrubbing keeps clean, and makes clean. -/
theorem clean_scrub {p ks p' ks' : List Nat} : ∀ {a : AV}, (AV.clean p ks a = true ∨ ((∀ k ∈ p, k ∈ p') ∧ ∀ k ∈ ks, k ∈ ks')) → AV.clean p ks (AV.scrub p' ks' a) = true
  | .dv d, _ => by unfold AV.scrub; rfl
  | .sl n kd rows r, h => by
    unfold AV.scrub
    cases r with
    | tok k =>
      simp only [Right.scrub]
      split
      · rfl
      · rename_i hm
        rcases h with h | ⟨_, h⟩
        · exact h
        · simp only [AV.clean, Bool.not_eq_true', mem_false]; rw [mem_iff] at hm; exact fun h' => hm (h k h')
    | no => rfl
    | ex => rfl
    | old => rfl
  | .agg cs, h => by unfold AV.scrub; simp only [AV.clean]; exact cleanL_scrub (by simpa [AV.clean] using h)
  | .tup cs, h => by unfold AV.scrub; simp only [AV.clean]; exact cleanL_scrub (by simpa [AV.clean] using h)
  | .pl k off, h => by
    unfold AV.scrub
    split
    · rfl
    · rename_i hm
      rcases h with h | ⟨h, _⟩
      · exact h
      · simp only [AV.clean, Bool.not_eq_true', mem_false]; rw [mem_iff] at hm; exact fun h' => hm (h k h')
  | .pv kd row off, _ => by unfold AV.scrub; rfl
  | .fn f cs, h => by unfold AV.scrub; simp only [AV.clean]; exact cleanL_scrub (by simpa [AV.clean] using h)
  | .ifc t v, h => by unfold AV.scrub; simp only [AV.clean]; exact clean_scrub (by simpa [AV.clean] using h)
  | .ms k kd off n c, h => by
    unfold AV.scrub
    split
    · rfl
    · rename_i hm
      rcases h with h | ⟨h, _⟩
      · exact h
      · simp only [AV.clean, Bool.not_eq_true', mem_false]; rw [mem_iff] at hm; exact fun h' => hm (h k h')
  | .pa k kd i j, h => by
    unfold AV.scrub
    split
    · rfl
    · rename_i hm
      rcases h with h | ⟨h, _⟩
      · exact h
      · simp only [AV.clean, Bool.not_eq_true', mem_false]; rw [mem_iff] at hm; exact fun h' => hm (h k h')
  | .arr kd rows, _ => by unfold AV.scrub; rfl
  | .junk, _ => by unfold AV.scrub; rfl
theorem cleanL_scrub {p ks p' ks' : List Nat} : ∀ {l : List AV}, (AV.cleanL p ks l = true ∨ ((∀ k ∈ p, k ∈ p') ∧ ∀ k ∈ ks, k ∈ ks')) → AV.cleanL p ks (AV.scrubL p' ks' l) = true
  | [], _ => by unfold AV.scrubL; rfl
  | a :: l, h => by
    unfold AV.scrubL
    simp only [AV.cleanL, Bool.and_eq_true] at h ⊢
    exact ⟨clean_scrub (h.imp And.left id), cleanL_scrub (h.imp And.right id)⟩
end

theorem scrubL_get (p ks : List Nat) : ∀ (l : List AV) (i : Nat), (AV.scrubL p ks l)[i]? = l[i]?.map (AV.scrub p ks)
  | [], i => by unfold AV.scrubL; simp
  | a :: l, 0 => by unfold AV.scrubL; simp
  | a :: l, i + 1 => by unfold AV.scrubL; simp [scrubL_get p ks l i]

def wlook : List (Nat × List AV) → Nat → Option (List AV)
  | [], _ => none
  | (j, cs) :: l, k => match wlook l k with
    | some c => some c
    | none => if k = j then some cs else none
theorem lookup_writes : ∀ (wr : List (Nat × List AV)) (m : Mem) (k : Nat), lookup (writes m wr) k = (wlook wr k).or (lookup m k)
  | [], m, k => by simp [writes, wlook]
  | (j, cs) :: l, m, k => by
    simp only [writes, wlook]
    rw [lookup_writes l, lookup_write]
    cases h : wlook l k with
    | some c => simp
    | none =>
      by_cases hj : k = j <;> simp [hj]
theorem wlook_keys : ∀ {wr : List (Nat × List AV)} {k : Nat}, k ∉ keys wr → wlook wr k = none
  | [], k, _ => rfl
  | (j, cs) :: l, k, h => by
    simp only [keys, List.mem_cons, not_or] at h
    simp only [wlook, wlook_keys h.2, if_neg h.1]
theorem wlook_clean {p ks : List Nat} : ∀ {wr : List (Nat × List AV)} {k : Nat} {cs : List AV}, cleanW p ks wr = true → wlook wr k = some cs → mem k p = false ∧ AV.cleanL p ks cs = true
  | [], k, cs, _, h => by simp [wlook] at h
  | (j, ds) :: l, k, cs, hc, h => by
    simp only [cleanW, Bool.and_eq_true, Bool.not_eq_true'] at hc
    simp only [wlook] at h
    split at h
    · rename_i c hw
      cases h
      exact wlook_clean hc.2 hw
    · split at h
      · rename_i hj; subst hj; cases h; exact hc.1
      · cases h

/-! states -/
def Eff.wr : Eff → List (Nat × List AV)
  | .pure _ => []
  | .full _ _ _ wr => wr
def Eff.ps : Eff → List Nat
  | .pure _ => []
  | .full _ p _ _ => p
def Eff.ks : Eff → List Nat
  | .pure _ => []
  | .full _ _ k _ => k
theorem Eff.keys_eq (e : Eff) : e.keys = Den.keys e.wr := by cases e <;> rfl
theorem Eff.clean_iff {p ks : List Nat} {e : Eff} : e.clean p ks = true ↔ e.val.clean p ks = true ∧ cleanW p ks e.wr = true := by
  cases e <;> simp [Eff.clean, Eff.val, Eff.wr, cleanW]
theorem Eff.within_iff {p ks : List Nat} {e : Eff} : e.within p ks = true ↔ (∀ k ∈ e.ps, k ∈ p) ∧ ∀ k ∈ e.ks, k ∈ ks := by
  cases e <;> simp [Eff.within, Eff.ps, Eff.ks, sub_iff]
theorem scrubM_lookup_nil (m : Mem) : scrubM [] [] m = m := scrubM_nil m
theorem apply_t (s : St) (d : Option Tmp) (e : Eff) : (s.apply d e).t = setT (AV.scrubL e.ps e.ks s.t) d e.val := by
  cases e with
  | pure r => simp only [St.apply, Eff.ps, Eff.ks, Eff.val, AV.scrubL_nil]
  | full r p ks wr => rfl
theorem apply_m (s : St) (d : Option Tmp) (e : Eff) (k : Nat) : lookup (s.apply d e).m k = (wlook e.wr k).or (if mem k e.ps then none else (lookup s.m k).map (AV.scrubL e.ps e.ks)) := by
  cases e with
  | pure r =>
    simp only [St.apply, Eff.wr, Eff.ps, Eff.ks, wlook, Option.none_or, mem]
    cases lookup s.m k <;> simp [AV.scrubL_nil]
  | full r p ks wr =>
    simp only [St.apply, Eff.wr, Eff.ps, Eff.ks]
    rw [lookup_writes, lookup_scrubM, lookup_dropAll]
    congr 1
    by_cases h : mem k p = true <;> simp [h]
theorem setT_get (t : List AV) (d : Option Tmp) (r : AV) (i : Nat) : (setT t d r)[i]? = if d = some i then t[i]?.map (fun _ => r) else t[i]? := by
  cases d with
  | none => simp [setT]
  | some d =>
    simp only [setT, Option.some.injEq]
    by_cases h : d = i
    · subst h
      rw [if_pos rfl, List.getElem?_set]
      simp only [if_true]
      split
      · rename_i h; rw [List.getElem?_eq_getElem h]; rfl
      · rename_i h; rw [List.getElem?_eq_none (by omega)]; rfl
    · rw [if_neg h, List.getElem?_set_ne h]

structure St.Same (s s' : St) : Prop where
  t : s.t = s'.t
  m : ∀ k, lookup s.m k = lookup s'.m k
theorem St.Same.refl (s : St) : s.Same s := ⟨rfl, fun _ => rfl⟩
theorem St.Same.symm {s s' : St} (h : s.Same s') : s'.Same s := ⟨h.t.symm, fun k => (h.m k).symm⟩
theorem St.Same.trans {s s' s'' : St} (h : s.Same s') (h' : s'.Same s'') : s.Same s'' := ⟨h.t.trans h'.t, fun k => (h.m k).trans (h'.m k)⟩

def El.app (el : El) (s : St) : St := s.apply el.o.dst el.eff
theorem St.Same.app {s s' : St} (h : s.Same s') (el : El) : (el.app s).Same (el.app s') := by
  refine ⟨?_, fun k => ?_⟩
  · unfold El.app; rw [apply_t, apply_t, h.t]
  · unfold El.app; rw [apply_m, apply_m, h.m]

structure CleanSt (p ks : List Nat) (s : St) : Prop where
  t : AV.cleanL p ks s.t = true
  m : ∀ k cs, lookup s.m k = some cs → mem k p = false ∧ AV.cleanL p ks cs = true
theorem CleanSt.same {p ks : List Nat} {s s' : St} (h : CleanSt p ks s) (hs : s.Same s') : CleanSt p ks s' :=
  ⟨by rw [← hs.t]; exact h.t, fun k cs hk => h.m k cs (by rw [hs.m]; exact hk)⟩
theorem cleanL_set {p ks : List Nat} {t : List AV} (h : AV.cleanL p ks t = true) (d : Option Tmp) {r : AV} (hr : r.clean p ks = true) : AV.cleanL p ks (setT t d r) = true := by
  rw [cleanL_iff] at h ⊢
  intro a ha
  cases d with
  | none => exact h a ha
  | some d =>
    rcases List.mem_or_eq_of_mem_set ha with h1 | h1
    · exact h a h1
    · subst h1; exact hr
theorem CleanSt.app {p ks : List Nat} {s : St} (h : CleanSt p ks s) {el : El} (he : el.eff.clean p ks = true) : CleanSt p ks (el.app s) := by
  obtain ⟨h1, h2⟩ := Eff.clean_iff.1 he
  refine ⟨?_, fun k cs hk => ?_⟩
  · unfold El.app; rw [apply_t]; exact cleanL_set (cleanL_scrub (.inl h.t)) _ h1
  · unfold El.app at hk
    rw [apply_m] at hk
    cases hw : wlook el.eff.wr k with
    | some c =>
      rw [hw] at hk
      simp only [Option.some_or, Option.some.injEq] at hk
      subst hk
      exact wlook_clean h2 hw
    | none =>
      rw [hw, Option.none_or] at hk
      split at hk
      · cases hk
      · obtain ⟨c0, h0, rfl⟩ := Option.map_eq_some_iff.1 hk
        obtain ⟨g1, g2⟩ := h.m k c0 h0
        exact ⟨g1, cleanL_scrub (.inl g2)⟩
/-- On a clean state an effect only puts. -/
theorem app_clean {s : St} {el : El} (h : CleanSt el.p el.k s) (hw : el.eff.within el.p el.k = true) :
    (el.app s).t = setT s.t el.o.dst el.eff.val ∧ ∀ k, lookup (el.app s).m k = (wlook el.eff.wr k).or (lookup s.m k) := by
  obtain ⟨h1, h2⟩ := Eff.within_iff.1 hw
  refine ⟨?_, fun k => ?_⟩
  · unfold El.app; rw [apply_t, scrubL_clean h1 h2 h.t]
  · unfold El.app; rw [apply_m]
    congr 1
    cases hk : lookup s.m k with
    | none => simp
    | some cs =>
      obtain ⟨g1, g2⟩ := h.m k cs hk
      rw [if_neg, Option.map_some, scrubL_clean h1 h2 g2]
      rw [mem_iff]; exact fun hm => (mem_false.1 g1) (h1 k hm)

structure Swap (a b : El) : Prop where
  wa : a.eff.within a.p a.k = true
  wb : b.eff.within b.p b.k = true
  ca : a.eff.clean b.p b.k = true
  cb : b.eff.clean a.p a.k = true
  da : ∀ d, a.o.dst = some d → d ∉ b.nm
  db : ∀ d, b.o.dst = some d → d ∉ a.nm
  ne : ∀ d, a.o.dst = some d → b.o.dst ≠ some d
  ta : ∀ k ∈ a.eff.keys, k ∉ b.tch
  tb : ∀ k ∈ b.eff.keys, k ∉ a.tch
  pa : ∀ k ∈ a.p, k ∉ b.tch
  pb : ∀ k ∈ b.p, k ∉ a.tch
  kk : ∀ k ∈ a.eff.keys, k ∉ b.eff.keys
theorem dstNot_iff {d : Option Tmp} {l : List Nat} (h : dstNot d l = true) : ∀ e, d = some e → e ∉ l := by
  intro e he; subst he
  simpa [dstNot, mem_false] using h
mutual
theorem clean_nil : ∀ a : AV, AV.clean [] [] a = true
  | .dv d => rfl
  | .sl n kd rows r => by cases r <;> rfl
  | .agg cs => by simp only [AV.clean]; exact cleanL_nil cs
  | .tup cs => by simp only [AV.clean]; exact cleanL_nil cs
  | .pl k off => rfl
  | .pv kd row off => rfl
  | .fn f cs => by simp only [AV.clean]; exact cleanL_nil cs
  | .ifc t v => by simp only [AV.clean]; exact clean_nil v
  | .ms .. => rfl
  | .pa .. => rfl
  | .arr .. => rfl
  | .junk => rfl
theorem cleanL_nil : ∀ l : List AV, AV.cleanL [] [] l = true
  | [] => rfl
  | a :: l => by simp only [AV.cleanL, clean_nil a, cleanL_nil l, Bool.and_self]
end
theorem cleanW_nil : ∀ l : List (Nat × List AV), cleanW [] [] l = true
  | [] => rfl
  | (k, cs) :: l => by simp only [cleanW, mem, cleanL_nil cs, cleanW_nil l, Bool.not_false, Bool.and_self]
theorem Eff.cleanQ_eq (p ks : List Nat) (e : Eff) : e.cleanQ p ks = e.clean p ks := by
  unfold Eff.cleanQ
  split
  · cases e with
    | pure r => simp only [Eff.clean, clean_nil]
    | full r p ks wr => simp only [Eff.clean, clean_nil, cleanW_nil, Bool.and_self]
  · rfl
theorem Swap.of {a b : El} (h : okPair false a b = true) : Swap a b := by
  simp only [okPair, Eff.cleanQ_eq, El.blind, Bool.and_eq_true] at h
  obtain ⟨h0, ⟨⟨⟨h1, ⟨⟨h2, h3⟩, h4⟩, h4'⟩, ⟨⟨h5, h6⟩, h7⟩, h7'⟩, h8⟩, h9⟩ := h
  refine ⟨h2, h5, h0, h1, dstNot_iff h3, dstNot_iff h6, ?_, disj_iff.1 h4, disj_iff.1 h7, disj_iff.1 h4', disj_iff.1 h7', disj_iff.1 h9⟩
  intro d ha hb
  rw [ha, hb] at h8
  simp [dstNe] at h8
theorem okPair_clean {b : Bool} {x y : El} (h : okPair b x y = true) : x.eff.clean y.p y.k = true := by
  simp only [okPair, Eff.cleanQ_eq, Bool.and_eq_true] at h; exact h.1
theorem Swap.symm {a b : El} (h : Swap a b) : Swap b a :=
  ⟨h.wb, h.wa, h.cb, h.ca, h.db, h.da, fun d hb ha => h.ne d ha hb, h.tb, h.ta, h.pb, h.pa, fun k hk hk' => h.kk k hk' hk⟩
theorem setT_comm (t : List AV) {d d' : Option Tmp} (r r' : AV) (h : ∀ e, d = some e → d' ≠ some e) : setT (setT t d r) d' r' = setT (setT t d' r') d r := by
  apply List.ext_getElem?
  intro i
  simp only [setT_get]
  by_cases h1 : d = some i
  · have h2 : d' ≠ some i := h i h1
    simp [h1, h2]
  · by_cases h2 : d' = some i <;> simp [h1, h2]
theorem Swap.comm {a b : El} (h : Swap a b) {s : St} (ha : CleanSt a.p a.k s) (hb : CleanSt b.p b.k s) : (b.app (a.app s)).Same (a.app (b.app s)) := by
  obtain ⟨e1, e2⟩ := app_clean ha h.wa
  obtain ⟨f1, f2⟩ := app_clean hb h.wb
  obtain ⟨g1, g2⟩ := app_clean (hb.app h.ca) h.wb
  obtain ⟨i1, i2⟩ := app_clean (ha.app h.cb) h.wa
  refine ⟨?_, fun k => ?_⟩
  · rw [g1, i1, e1, f1]; exact setT_comm _ _ _ h.ne
  · rw [g2, i2, e2, f2]
    by_cases hk : k ∈ a.eff.keys
    · have := h.kk k hk
      rw [Eff.keys_eq] at this
      rw [wlook_keys this]; simp
    · rw [Eff.keys_eq] at hk
      rw [wlook_keys hk]; simp

/-- Two states are alike where an operation looks. -/
structure Agree (b : El) (s s' : St) : Prop where
  t : ∀ d ∈ b.nm, s.t[d]? = s'.t[d]?
  m : ∀ k ∈ b.tch, lookup s.m k = lookup s'.m k
theorem Agree.refl (b : El) (s : St) : Agree b s s := ⟨fun _ _ => rfl, fun _ _ => rfl⟩
theorem Agree.symm {b : El} {s s' : St} (h : Agree b s s') : Agree b s' s := ⟨fun d hd => (h.t d hd).symm, fun k hk => (h.m k hk).symm⟩
theorem Agree.trans {b : El} {s s' s'' : St} (h : Agree b s s') (h' : Agree b s' s'') : Agree b s s'' := ⟨fun d hd => (h.t d hd).trans (h'.t d hd), fun k hk => (h.m k hk).trans (h'.m k hk)⟩
theorem Agree.same {b : El} {s s' : St} (h : s.Same s') : Agree b s s' := ⟨fun d _ => by rw [h.t], fun k _ => h.m k⟩
theorem Agree.app {b : El} {s s' : St} (h : Agree b s s') (el : El) : Agree b (el.app s) (el.app s') := by
  refine ⟨fun d hd => ?_, fun k hk => ?_⟩
  · unfold El.app; rw [apply_t, apply_t, setT_get, setT_get, scrubL_get, scrubL_get, h.t d hd]
  · unfold El.app; rw [apply_m, apply_m, h.m k hk]
/-- b does not see a. -/
theorem Swap.unseen {a b : El} (h : Swap a b) {s : St} (ha : CleanSt a.p a.k s) : Agree b (a.app s) s := by
  obtain ⟨e1, e2⟩ := app_clean ha h.wa
  refine ⟨fun d hd => ?_, fun k hk => ?_⟩
  · rw [e1, setT_get, if_neg (fun he => h.da d he hd)]
  · rw [e2, wlook_keys, Option.none_or]
    rw [← Eff.keys_eq]; exact fun hm => h.ta k hm hk

/-! stages -/
def stage (L : Nat → Bool) : Nat → List El → St → St
  | _, [], s => s
  | i, el :: l, s => stage L (i + 1) l (if L i then el.app s else s)
theorem stage_congr {L L' : Nat → Bool} : ∀ (l : List El) (i : Nat) (s : St), (∀ j, i ≤ j → j < i + l.length → L j = L' j) → stage L i l s = stage L' i l s
  | [], i, s, _ => rfl
  | el :: l, i, s, h => by
    simp only [stage]
    rw [h i (Nat.le_refl _) (by simp), stage_congr l (i + 1) _ fun j h1 h2 => h j (by omega) (by simp; omega)]
theorem stage_same {L : Nat → Bool} : ∀ (l : List El) (i : Nat) {s s' : St}, s.Same s' → (stage L i l s).Same (stage L i l s')
  | [], i, s, s', h => h
  | el :: l, i, s, s', h => by
    simp only [stage]
    split
    · exact stage_same l _ (h.app el)
    · exact stage_same l _ h

/-- What is known of a tail of the operations at a state: it is clean of what they will make; each is clean of what later ones will make. -/
structure Fresh (l : List El) (s : St) : Prop where
  st : ∀ el ∈ l, CleanSt el.p el.k s
  pair : List.Pairwise (fun a b : El => a.eff.clean b.p b.k = true) l
theorem Fresh.tail {el : El} {l : List El} {s : St} (h : Fresh (el :: l) s) : Fresh l s := ⟨fun e he => h.st e (List.mem_cons_of_mem _ he), (List.pairwise_cons.1 h.pair).2⟩
theorem Fresh.app {el : El} {l : List El} {s : St} (h : Fresh (el :: l) s) : Fresh l (el.app s) :=
  ⟨fun e he => (h.st e (List.mem_cons_of_mem _ he)).app ((List.pairwise_cons.1 h.pair).1 e he), (List.pairwise_cons.1 h.pair).2⟩
theorem Fresh.ite {el : El} {l : List El} {s : St} (h : Fresh (el :: l) s) (b : Bool) : Fresh l (if b then el.app s else s) := by
  cases b
  · exact h.tail
  · exact h.app

/-- Behind b: those that are listed may be swapped with b. -/
theorem stage_behind {L : Nat → Bool} {b : El} : ∀ (l : List El) (i : Nat) (s s' : St), s'.Same (b.app s) → CleanSt b.p b.k s → Fresh l s → (∀ j el, l[j]? = some el → L (i + j) = true → Swap b el) →
    (stage L i l s').Same (b.app (stage L i l s))
  | [], i, s, s', h, _, _, _ => h
  | el :: l, i, s, s', h, hb, hf, hs => by
    simp only [stage]
    have hs' : ∀ j e, l[j]? = some e → L (i + 1 + j) = true → Swap b e := fun j e he hl => hs (j + 1) e (by simpa using he) (by rw [← hl]; congr 1; omega)
    cases hL : L i with
    | false => simp only [Bool.false_eq_true, if_false]; exact stage_behind l (i + 1) s s' h hb hf.tail hs'
    | true =>
      simp only [if_true]
      have hsw := hs 0 el rfl hL
      exact stage_behind l (i + 1) (el.app s) (el.app s') ((h.app el).trans (hsw.comm hb (hf.st el (List.mem_cons_self ..)))) (hb.app hsw.cb) hf.app hs'
theorem stage_unseen {L : Nat → Bool} {b : El} : ∀ (l : List El) (i : Nat) (s : St), Fresh l s → (∀ j el, l[j]? = some el → L (i + j) = true → Swap b el) → Agree b (stage L i l s) s
  | [], i, s, _, _ => .refl b s
  | el :: l, i, s, hf, hs => by
    simp only [stage]
    have hs' : ∀ j e, l[j]? = some e → L (i + 1 + j) = true → Swap b e := fun j e he hl => hs (j + 1) e (by simpa using he) (by rw [← hl]; congr 1; omega)
    cases hL : L i with
    | false => simp only [Bool.false_eq_true, if_false]; exact stage_unseen l (i + 1) s hf.tail hs'
    | true =>
      simp only [if_true]
      exact (stage_unseen l (i + 1) _ hf.app hs').trans ((hs 0 el rfl hL).symm.unseen (hf.st el (List.mem_cons_self ..)))

/-- One more is listed. -/
theorem stage_add {L : Nat → Bool} {b : El} {j : Nat} : ∀ (l : List El) (i : Nat) (s : St), i ≤ j → l[j - i]? = some b → L j = false → Fresh l s →
    (∀ k el, l[k]? = some el → j < i + k → L (i + k) = true → Swap b el) →
    (stage (fun k => k == j || L k) i l s).Same (b.app (stage L i l s))
  | [], i, s, _, h, _, _, _ => by simp at h
  | el :: l, i, s, hij, hb, hL, hf, hs => by
    simp only [stage]
    have hs' : ∀ k e, l[k]? = some e → j < i + 1 + k → L (i + 1 + k) = true → Swap b e := fun k e he h1 hl => hs (k + 1) e (by simpa using he) (by omega) (by rw [← hl]; congr 1; omega)
    by_cases h : i = j
    · subst h
      simp only [Nat.sub_self, List.getElem?_cons_zero, Option.some.injEq] at hb
      subst hb
      simp only [beq_self_eq_true, Bool.true_or, if_true, hL, Bool.false_eq_true, if_false]
      rw [stage_congr (L' := L) l (i + 1) _ fun k h1 _ => by
        have : (k == i) = false := by simp; omega
        rw [this, Bool.false_or]]
      exact stage_behind l (i + 1) s (el.app s) (.refl _) (hf.st el (List.mem_cons_self ..)) hf.tail fun k e he hl => hs' k e he (by omega) hl
    · have h2 : (i == j) = false := by simpa using h
      simp only [h2, Bool.false_or]
      refine stage_add l (i + 1) _ (by omega) ?_ hL (hf.ite _) hs'
      have : j - i = (j - (i + 1)) + 1 := by omega
      rw [this, List.getElem?_cons_succ] at hb
      exact hb
/-- What an operation looks at, at a stage, is what it looks at in text order. -/
theorem stage_agree {L : Nat → Bool} {b : El} {j : Nat} : ∀ (l : List El) (i : Nat) (s s' : St), i ≤ j → l[j - i]? = some b → L j = false → Fresh l s → Fresh l s' → Agree b s s' →
    (∀ k el, l[k]? = some el → i + k < j → L (i + k) = false → Swap el b) →
    (∀ k el, l[k]? = some el → j < i + k → L (i + k) = true → Swap b el) →
    Agree b (stage L i l s) (stage (fun k => decide (k < j)) i l s')
  | [], i, s, s', _, h, _, _, _, _, _, _ => by simp at h
  | el :: l, i, s, s', hij, hb, hL, hf, hf', ha, h1, h2 => by
    simp only [stage]
    have h1' : ∀ k e, l[k]? = some e → i + 1 + k < j → L (i + 1 + k) = false → Swap e b := fun k e he g hl => h1 (k + 1) e (by simpa using he) (by omega) (by rw [← hl]; congr 1; omega)
    have h2' : ∀ k e, l[k]? = some e → j < i + 1 + k → L (i + 1 + k) = true → Swap b e := fun k e he g hl => h2 (k + 1) e (by simpa using he) (by omega) (by rw [← hl]; congr 1; omega)
    by_cases h : i = j
    · subst h
      simp only [hL, Bool.false_eq_true, if_false, Nat.lt_irrefl, decide_false]
      have e1 : stage (fun k => decide (k < i)) (i + 1) l s' = s' := by
        clear h1 h2 h1' h2' hb hf hf' ha
        have : ∀ (l : List El) (n : Nat), i < n → stage (fun k => decide (k < i)) n l s' = s' := by
          intro l
          induction l with
          | nil => intro n _; rfl
          | cons e l ih => intro n hn; have hd : decide (n < i) = false := decide_eq_false (by omega); simp only [stage, hd, Bool.false_eq_true, if_false]; exact ih (n + 1) (by omega)
        exact this l (i + 1) (by omega)
      rw [e1]
      exact (stage_unseen l (i + 1) s hf.tail fun k e he hl => h2' k e he (by omega) hl).trans ha
    · have hlt : i < j := by omega
      have hd : decide (i < j) = true := decide_eq_true hlt
      simp only [hd, if_true]
      have hb' : l[j - (i + 1)]? = some b := by
        have : j - i = (j - (i + 1)) + 1 := by omega
        rw [this, List.getElem?_cons_succ] at hb
        exact hb
      cases hLi : L i with
      | true =>
        simp only [if_true]
        exact stage_agree l (i + 1) _ _ (by omega) hb' hL hf.app hf'.app (ha.app el) h1' h2'
      | false =>
        simp only [Bool.false_eq_true, if_false]
        refine stage_agree l (i + 1) _ _ (by omega) hb' hL hf.tail hf'.app ?_ h1' h2'
        exact ha.trans ((h1 0 el rfl (by simpa using hlt) (by simpa using hLi)).unseen (hf'.st el (List.mem_cons_self ..))).symm

/-! what comes before what -/
theorem close_mem {acc : List (List Nat)} : ∀ {b : List Nat} {i : Nat}, i ∈ close acc b → ∃ e ∈ b, i = e ∨ i ∈ acc.getD e []
  | [], i, h => by simp [close] at h
  | e :: b, i, h => by
    simp only [close, List.mem_cons, List.mem_append] at h
    rcases h with h | h | h
    · exact ⟨e, by simp, .inl h⟩
    · exact ⟨e, by simp, .inr h⟩
    · obtain ⟨e', h1, h2⟩ := close_mem h; exact ⟨e', by simp [h1], h2⟩
theorem getD_append_left (acc : List (List Nat)) (x : List (List Nat)) (j : Nat) (h : j < acc.length) : (acc ++ x).getD j [] = acc.getD j [] := by
  simp [List.getElem?_append_left h]
theorem getD_big (acc : List (List Nat)) (j : Nat) (h : acc.length ≤ j) : acc.getD j [] = [] := by
  simp [List.getElem?_eq_none h]
theorem befs_spec (ops : List Oper) : ∀ (l : List Oper) (acc : List (List Nat)), (∀ k, l[k]? = ops[acc.length + k]?) →
    (∀ j o, j < acc.length → ops[j]? = some o → ∀ i ∈ acc.getD j [], ∃ e ∈ bindsOf o.after.toList, i = e ∨ (e < j ∧ i ∈ acc.getD e [])) →
    ∀ j o, ops[j]? = some o → ∀ i ∈ (befs l acc).getD j [], ∃ e ∈ bindsOf o.after.toList, i = e ∨ (e < j ∧ i ∈ (befs l acc).getD e [])
  | [], acc, hl, h, j, o, ho, i, hi => by
    simp only [befs] at hi ⊢
    rcases Nat.lt_or_ge j acc.length with hj | hj
    · exact h j o hj ho i hi
    · rw [getD_big _ _ hj] at hi; cases hi
  | o0 :: l, acc, hl, h, j, o, ho, i, hi => by
    simp only [befs] at hi ⊢
    refine befs_spec ops l _ ?_ ?_ j o ho i hi
    · intro k; have := hl (k + 1); simp only [List.getElem?_cons_succ] at this; rw [this]; simp; congr 1; omega
    · intro j o hj ho i hi
      simp only [List.length_append, List.length_singleton] at hj
      by_cases hj' : j < acc.length
      · rw [getD_append_left _ _ _ hj'] at hi
        obtain ⟨e, he, h1⟩ := h j o hj' ho i hi
        refine ⟨e, he, h1.imp id fun ⟨g1, g2⟩ => ⟨g1, ?_⟩⟩
        rw [getD_append_left _ _ _ (by omega)]; exact g2
      · have hj2 : j = acc.length := by omega
        subst hj2
        have ho2 : o0 = o := by have := hl 0; simp at this; rw [ho] at this; exact Option.some.inj this
        subst ho2
        have e1 : (acc ++ [dedup (close acc (bindsOf o0.after.toList))]).getD acc.length [] = dedup (close acc (bindsOf o0.after.toList)) := by simp
        rw [e1] at hi
        obtain ⟨e, he, h1⟩ := close_mem (mem_iff.1 (dedup_mem.1 (mem_iff.2 hi)))
        refine ⟨e, he, h1.imp id fun g => ?_⟩
        have hlt : e < acc.length := by
          rcases Nat.lt_or_ge e acc.length with h | h
          · exact h
          · rw [getD_big _ _ h] at g; cases g
        exact ⟨hlt, by rw [getD_append_left _ _ _ hlt]; exact g⟩

theorem bindsOf_mem : ∀ {l : List Edge} {i : Nat}, i ∈ bindsOf l ↔ ∃ e ∈ l, Region.binds .any e = true ∧ e.on = i
  | [], i => by simp [bindsOf]
  | e :: l, i => by
    simp only [bindsOf]
    cases h : Region.binds .any e with
    | true =>
      simp only [List.mem_cons, bindsOf_mem (l := l)]
      constructor
      · rintro (h1 | ⟨e', h1, h2⟩)
        · exact ⟨e, .inl rfl, h, h1.symm⟩
        · exact ⟨e', .inr h1, h2⟩
      · rintro ⟨e', h1 | h1, h2, h3⟩
        · subst h1; exact .inl h3.symm
        · exact .inr ⟨e', h1, h2, h3⟩
    | false =>
      simp only [List.mem_cons, bindsOf_mem (l := l)]
      constructor
      · rintro ⟨e', h1, h2⟩; exact ⟨e', .inr h1, h2⟩
      · rintro ⟨e', h1 | h1, h2, h3⟩
        · subst h1; rw [h] at h2; cases h2
        · exact ⟨e', h1, h2, h3⟩

/-- A list of operations that holds what it hangs on. -/
def Down (ops : List Oper) (L : Nat → Bool) : Prop := ∀ j o, ops[j]? = some o → L j = true → ∀ i ∈ bindsOf o.after.toList, L i = true
theorem Down.bef {ops : List Oper} {L : Nat → Bool} (h : Down ops L) : ∀ (n j : Nat), j ≤ n → ∀ i o, ops[j]? = some o → (∀ i ∈ bindsOf o.after.toList, L i = true) → bef (befs ops []) i j = true → L i = true
  | n, j, hj, i, o, ho, hall, hb => by
    unfold Den.bef at hb
    rw [mem_iff] at hb
    obtain ⟨e, he, h1⟩ := befs_spec ops ops [] (fun k => by simp) (fun j o hj => by simp at hj) j o ho i hb
    rcases h1 with h1 | ⟨h1, h2⟩
    · subst h1; exact hall i he
    · cases n with
      | zero => omega
      | succ n =>
        have hlt : j < ops.length := (List.getElem?_eq_some_iff.1 ho).1
        have hoe : ops[e]? = some ops[e] := List.getElem?_eq_getElem (by omega)
        refine Down.bef h n e (by omega) i _ hoe ?_ (by unfold Den.bef; rw [mem_iff]; exact h2)
        exact h e _ hoe (hall e he)
end Go.Den
