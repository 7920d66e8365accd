import Derived.Test.YtlpnccpagikioaaDoorDenH
set_option linter.unusedVariables false
set_option linter.unusedSimpArgs false
set_option linter.unusedSectionVars false
/- Every operation is sound. -/
namespace Go.Den
variable {e : Env} {x : X} {w : World} {m : Mem} {tm : List AV} {a : Act} {next : Act → World → Prop} {Q : Exit → Act → World → Prop}

/-- What holds behind an operation. -/
def After (e : Env) (x x' : X) (w' : World) (m : Mem) (v : Value) : Eff → Prop
  | .pure r => Rep x' r v ∧ Inv e x' w' m ∧ Ext x x' [] []
  | .full r p ks wr => Rep x' r v ∧ Inv e x' w' (writes (scrubM p ks (dropAll m p)) wr) ∧ Ext x x' p ks

theorem scrubM_nil : ∀ m : Mem, scrubM [] [] m = m
  | [] => rfl
  | (k, cs) :: m => by simp only [scrubM, AV.scrubL_nil, scrubM_nil m]

mutual
theorem Rep.noTok {x : X} : ∀ {a v}, Rep x a v → a.hasTok = false → Rep { x with tk := fun _ => none } a v
  | _, _, .dv d v h, _ => .dv d v h
  | _, _, .sl n kd rows r v h hr, ht => by
    refine .sl n kd rows r v h ?_
    cases r with
    | no => trivial
    | ex => exact hr
    | tok k => simp [AV.hasTok] at ht
    | old => exact hr
  | _, _, .agg cs vs h, ht => .agg cs vs (RepL.noTok h (by simpa [AV.hasTok] using ht))
  | _, _, .tup cs vs h, ht => .tup cs vs (RepL.noTok h (by simpa [AV.hasTok] using ht))
  | _, _, .pl k off b h, _ => .pl k off b h
  | _, _, .pv kd row off b o h1 h2, _ => .pv kd row off b o h1 h2
  | _, _, .fn f cs vs h, ht => .fn f cs vs (RepL.noTok h (by simpa [AV.hasTok] using ht))
  | _, _, .ifc t a v h, ht => .ifc t a v (Rep.noTok h (by simpa [AV.hasTok] using ht))
  | _, _, .ms k kd off n c b o c' h g1 g2 g3, _ => .ms k kd off n c b o c' h g1 g2 g3
  | _, _, .pa k kd i j b h, _ => .pa k kd i j b h
  | _, _, .junk v, _ => .junk v
theorem RepL.noTok {x : X} : ∀ {l vs}, RepL x l vs → AV.hasTokL l = false → RepL { x with tk := fun _ => none } l vs
  | _, _, .nil, _ => .nil
  | _, _, .cons a v l vs ha hl, ht => by
    simp only [AV.hasTokL, Bool.or_eq_false_iff] at ht
    exact .cons a v l vs (Rep.noTok ha ht.1) (RepL.noTok hl ht.2)
end

theorem toks8_mem (D i : Nat) (hi : i < 8) : mem (1000 + 8 * D + i) (toks8 D) = true := by
  rw [mem_iff]
  unfold toks8
  simp only [List.mem_cons, List.not_mem_nil, or_false]
  omega
theorem toks8_le (D j : Nat) (hj : mem j (toks8 D) = true) : 1000 + 8 * D ≤ j := by
  rw [mem_iff] at hj
  unfold toks8 at hj
  simp only [List.mem_cons, List.not_mem_nil, or_false] at hj
  omega

/-! what is lent -/
def blkOf : Option (Value × Nat) → Option Nat
  | some (.slice (some a) _ c, _) => if 0 < c then some a.block else none
  | _ => none
def lentBlocks (args : List AV) (vs : List Value) : List Nat := (List.range args.length).filterMap fun i => blkOf (heldT args ⟨vs⟩ i)
def lentTk (args : List AV) (vs : List Value) : Nat → Option (Value × Nat) := fun j => if 500000 ≤ j then heldT args ⟨vs⟩ (j - 500000) else none
theorem heldT_from {args : List AV} {vs : List Value} (hT : RepL x args vs) {j : Nat} {v : Value} {sz : Nat} (h : heldT args ⟨vs⟩ j = some (v, sz)) :
    ∃ n ks rows r, args[j]? = some (.sl n ks rows r) ∧ vs[j]? = some v ∧ RepD x.M (.sl n ks rows) v ∧ RtOk x r (.sl n ks rows) v ks.length ∧ r.held rows = true ∧ sz = ks.length := by
  unfold heldT at h
  split at h
  · rename_i n ks rows hj
    obtain ⟨u, hu, hr⟩ := hT.get hj
    have : (⟨vs⟩ : Array Value).getD j undef = u := by rw [Array.getD_eq_getD_getElem?]; simp [hu]
    rw [this] at h
    split at h
    · rename_i he
      cases h
      cases hr with
      | sl _ _ _ _ _ hd hr => exact ⟨n, ks, rows, .ex, hj, hu, hd, hr, he, rfl⟩
    · cases h
  · rename_i n ks rows k hj
    obtain ⟨u, hu, hr⟩ := hT.get hj
    have : (⟨vs⟩ : Array Value).getD j undef = u := by rw [Array.getD_eq_getD_getElem?]; simp [hu]
    rw [this] at h
    cases h
    cases hr with
    | sl _ _ _ _ _ hd hr => exact ⟨n, ks, rows, .tok k, hj, hu, hd, hr, rfl, rfl⟩
  · cases h
theorem heldT_tok {args : List AV} {vs : List Value} (hT : RepL x args vs) {j : Nat} {a : Addr} {n c sz : Nat} (h : heldT args ⟨vs⟩ j = some (.slice (some a) n c, sz)) (hc : 0 < c) :
    ∃ k b, x.tk k = some (.slice (some a) n c, sz) ∧ args[j]? = some b ∧ k ∈ b.topTok := by
  obtain ⟨nl, ks, rows, r, h1, h2, h3, h4, h5, rfl⟩ := heldT_from hT h
  cases r with
  | no => simp [Right.held] at h5
  | old => simp [Right.held] at h5
  | ex => exact absurd hc (ex_room h3 h4 h5 rfl a n c rfl)
  | tok k => exact ⟨k, _, h4, h1, by simp [AV.topTok, Right.toks]⟩
theorem lentBlocks_get {args : List AV} {vs : List Value} {b : Nat} (h : b ∈ lentBlocks args vs) : ∃ j a n c sz, heldT args ⟨vs⟩ j = some (.slice (some a) n c, sz) ∧ 0 < c ∧ b = a.block := by
  obtain ⟨j, _, hj⟩ := List.mem_filterMap.1 h
  unfold blkOf at hj
  split at hj
  · rename_i a n c sz he
    split at hj
    · rename_i hc; cases hj; exact ⟨j, a, n, c, sz, he, hc, rfl⟩
    · cases hj
  · cases hj
theorem lentBlocks_mem {args : List AV} {vs : List Value} {j : Nat} {a : Addr} {n c sz : Nat} (h : heldT args ⟨vs⟩ j = some (.slice (some a) n c, sz)) (hc : 0 < c) : a.block ∈ lentBlocks args vs := by
  refine List.mem_filterMap.2 ⟨j, ?_, by rw [h]; simp [blkOf, hc]⟩
  rw [List.mem_range]
  unfold heldT at h
  split at h
  · rename_i hj; exact (List.getElem?_eq_some_iff.1 hj).1
  · rename_i hj; exact (List.getElem?_eq_some_iff.1 hj).1
  · cases h
theorem Rep.lend {args : List AV} {vs : List Value} {ks : List Nat} {i : Nat} {a : AV} {v : Value} (ha : args[i]? = some a) (hv : vs[i]? = some v) (h : Rep x a v) : Rep { x.callee ks with tk := lentTk args vs } (AV.lend ks i a) v := by
  have hget : (⟨vs⟩ : Array Value).getD i undef = v := by rw [Array.getD_eq_getD_getElem?]; simp [hv]
  have hpass : Rep { x.callee ks with tk := lentTk args vs } (AV.pass ks a).bare v := Rep.bare (x := { x.callee ks with tk := lentTk args vs }) rfl ⟨rfl, rfl, rfl⟩ (h.passT _)
  cases h with
  | sl n kd rows r _ hd hr =>
    simp only [AV.lend]
    refine .sl _ _ _ _ _ hd ?_
    cases r with
    | no => trivial
    | old => trivial
    | tok k =>
      show lentTk args vs (500000 + i) = _
      unfold lentTk
      rw [if_pos (by omega), Nat.add_sub_cancel_left]
      unfold heldT
      rw [ha, hget]
    | ex =>
      simp only [Right.lend]
      cases he : rows.isEmpty with
      | false => trivial
      | true =>
        show lentTk args vs (500000 + i) = _
        unfold lentTk
        rw [if_pos (by omega), Nat.add_sub_cancel_left]
        unfold heldT
        rw [ha, hget]
        simp only [he]
  | dv => exact hpass
  | agg => exact hpass
  | tup => exact hpass
  | pl => exact hpass
  | pv => exact hpass
  | fn => exact hpass
  | ifc => exact hpass
  | ms => exact hpass
  | pa => exact hpass
  | junk => exact hpass
theorem RepL.lend {x' : X} {ks : List Nat} : ∀ {l : List AV} {us : List Value} (i : Nat), RepL x l us → (∀ q a v, l[q]? = some a → us[q]? = some v → Rep x a v → Rep x' (AV.lend ks (i + q) a) v) → RepL x' (AV.lendL ks i l) us
  | _, _, i, .nil, _ => .nil
  | _, _, i, .cons a v l us ha hl, h => .cons _ _ _ _ (by simpa using h 0 a v rfl rfl ha) (RepL.lend (i + 1) hl fun q b u hb hu hr => by have := h (q + 1) b u (by simpa using hb) (by simpa using hu) hr; rwa [show i + 1 + q = i + (q + 1) by omega])
theorem hasTok_lend {ks : List Nat} : ∀ {l : List AV} {i q : Nat} {a : AV}, l[q]? = some a → (AV.lend ks (i + q) a).hasTok = true → AV.hasTokL (AV.lendL ks i l) = true
  | [], i, q, a, h, _ => by simp at h
  | b :: l, i, 0, a, h, ht => by simp at h; subst h; simp only [AV.lendL, AV.hasTokL, Bool.or_eq_true]; exact .inl ht
  | b :: l, i, q + 1, a, h, ht => by
    simp only [AV.lendL, AV.hasTokL, Bool.or_eq_true]
    exact .inr (hasTok_lend (i := i + 1) (q := q) (by simpa using h) (by rwa [show i + 1 + q = i + (q + 1) by omega]))
theorem lent_none {args : List AV} {vs : List Value} (hT : RepL x args vs) {ks : List Nat} (h : AV.hasTokL (AV.lendL ks 0 args) = false) : lentBlocks args vs = [] ∧ ∀ k, lentTk args vs k = none := by
  have hno : ∀ j, heldT args ⟨vs⟩ j = none := by
    intro j
    cases hj : heldT args ⟨vs⟩ j with
    | none => rfl
    | some z =>
      obtain ⟨v, sz⟩ := z
      obtain ⟨nl, kd, rows, r, h1, _, _, _, h5, _⟩ := heldT_from hT hj
      have : AV.hasTokL (AV.lendL ks 0 args) = true := hasTok_lend (q := j) h1 (by
        rw [Nat.zero_add]
        simp only [AV.lend]
        cases r with
        | no => simp [Right.held] at h5
        | old => simp [Right.held] at h5
        | tok k => rfl
        | ex => simp only [Right.held] at h5; simp only [Right.lend, h5, AV.hasTok])
      rw [h] at this; cases this
  refine ⟨List.filterMap_eq_nil_iff.2 fun j _ => by rw [hno]; rfl, fun k => ?_⟩
  unfold lentTk
  split
  · exact hno _
  · rfl

theorem slots_at {ks : List Nat} {ext : List (List AV)} (hext : cellsOf m ks ks = some ext) : ∀ b, b ∈ ks.filterMap x.loc → ∃ k cs, lookup m k = some cs ∧ x.loc k = some b ∧ k ∈ ks := by
  obtain ⟨hl1, hget⟩ := cellsOf_get hext
  intro b hb
  obtain ⟨k, hk1, hk2⟩ := List.mem_filterMap.1 hb
  obtain ⟨i, hi⟩ := List.getElem?_of_mem hk1
  obtain ⟨cs, hcs, _⟩ := hget i k hi
  exact ⟨k, cs, hcs, hk2, hk1⟩
/-- The library's variable is a callee's as it was. -/
theorem Inv.globs (hI : Inv e x w m) {ks : List Nat} {ext : List (List AV)} (hext : cellsOf m ks ks = some ext) {ktk : Nat → Option (Value × Nat)} {D : List Deferred} {L : List Nat}
    (htokL : ∀ b, b ∈ L → ∃ k a n c sz, b = a.block ∧ x.tk k = some (.slice (some a) n c, sz) ∧ 0 < c) : GlobOk ⟨e.P, w, { x.callee ks with tk := ktk }, ks.filterMap x.loc, D, L⟩ := by
  intro g hg
  obtain ⟨⟨ty, fr, h1⟩, ⟨v, h2⟩, h3, h4⟩ := hI.glob g hg
  have hlt : g < e.w0.heap.size := (Array.getElem?_eq_some_iff.1 h1).1
  have hv := hI.mono g 0 v h2
  refine ⟨⟨ty, fr, by rw [hI.old g hlt h3 h4]; exact h1⟩, ⟨v, hv⟩, fun hE => ?_, fun hL => ?_⟩
  · obtain ⟨k, cs, p1, p2, _⟩ := slots_at hext g hE
    obtain ⟨b, _, _, q1, _, _, _, q5⟩ := hI.slot k cs p1
    rw [p2] at q1
    cases q1
    rw [q5 0] at hv; cases hv
  · obtain ⟨k, a, n, c, sz, rfl, p1, p2⟩ := htokL g hL
    obtain ⟨_, _, _, _, q3, _⟩ := hI.tok k _ sz p1 a n c rfl p2
    rcases q3 with q3 | q3
    · omega
    · exact h4 q3
/-- What a callee finds. -/
theorem Inv.enter (hI : Inv e x w m) {ks : List Nat} {ext : List (List AV)} (hnd : ks.Nodup) (hext : cellsOf m ks ks = some ext) (D : List Deferred) {ktk : Nat → Option (Value × Nat)} {L : List Nat}
    (htok : ∀ j a n c sz, ktk j = some (.slice (some a) n c, sz) → 0 < c → a.block ∈ L ∧ ∃ k, x.tk k = some (.slice (some a) n c, sz))
    (hone : ∀ j j' a n c sz a' n' c' sz', ktk j = some (.slice (some a) n c, sz) → ktk j' = some (.slice (some a') n' c', sz') → 0 < c → 0 < c' → a.block = a'.block → j = j')
    (htokL : ∀ b, b ∈ L → ∃ k a n c sz, b = a.block ∧ x.tk k = some (.slice (some a) n c, sz) ∧ 0 < c) :
    Inv ⟨e.P, w, { x.callee ks with tk := ktk }, ks.filterMap x.loc, D, L⟩ { x.callee ks with tk := ktk } w (zipExt 1000 ext) := by
  obtain ⟨hl1, hget⟩ := cellsOf_get hext
  have hz : ∀ k cs, lookup (zipExt 1000 ext) k = some cs → ∃ (q j : Nat), k = 1000 + q ∧ ks[q]? = some j ∧ ∃ c0, lookup m j = some c0 ∧ cs = AV.passL ks c0 ∧ (x.callee ks).loc k = x.loc j := by
    intro k cs hk
    rw [lookup_zipExt] at hk
    split at hk
    · rename_i hle
      obtain ⟨q, rfl⟩ : ∃ q, k = 1000 + q := ⟨k - 1000, by omega⟩
      rw [Nat.add_sub_cancel_left] at hk
      have hlt : q < ks.length := by rw [← hl1]; exact (List.getElem?_eq_some_iff.1 hk).1
      obtain ⟨c0, h0, h1⟩ := hget q (ks[q]'hlt) (List.getElem?_eq_getElem hlt)
      rw [hk] at h1
      refine ⟨q, ks[q]'hlt, rfl, List.getElem?_eq_getElem hlt, c0, h0, Option.some.inj h1, ?_⟩
      simp only [X.callee]
      rw [if_pos (by omega), Nat.add_sub_cancel_left, List.getElem?_eq_getElem hlt]; rfl
    · cases hk
  have hglob : GlobOk ⟨e.P, w, { x.callee ks with tk := ktk }, ks.filterMap x.loc, D, L⟩ := hI.globs hext htokL
  refine ⟨hI.sub, ?_, ?_, ?_, ?_, ?_,
    rfl, rfl, rfl, Nat.le_refl _, fun _ _ _ _ => rfl, Sub.refl _, fun _ _ _ h => .inl h, fun _ _ => rfl, fun _ _ _ hv => hI.lt hv, ⟨fun k b cs hk hb => by
        obtain ⟨q, j, rfl, hj, c0, h0, rfl, hb1⟩ := hz k cs hk
        have hb : (x.callee ks).loc (1000 + q) = some b := hb
        rw [hb1] at hb
        obtain ⟨arr, ty, r1, r2⟩ := hI.more.room j b c0 h0 hb
        refine ⟨arr, ty, r1, ?_⟩
        have hcap : (x.callee ks).cap (1000 + q) = x.cap j := by simp only [X.callee]; rw [if_pos (by omega), Nat.add_sub_cancel_left, hj]; rfl
        show (x.callee ks).cap (1000 + q) ≤ _
        rw [hcap]; exact r2, fun _ _ => rfl, rfl, Nat.le_refl _⟩, hglob⟩
  · intro k cs hk
    obtain ⟨q, j, rfl, hj, c0, h0, rfl, hb⟩ := hz k cs hk
    obtain ⟨b, ty, arr, p1, p2, p3, p4, p5⟩ := hI.slot j c0 h0
    exact ⟨b, ty, arr, hb.trans p1, .inr ⟨List.mem_filterMap.2 ⟨j, List.mem_of_getElem? hj, p1⟩, by omega⟩, p3, p4.passT ktk, p5⟩
  · intro k k' cs cs' b hk hk' hb hb'
    obtain ⟨q, j, rfl, hj, c0, h0, rfl, hb1⟩ := hz k cs hk
    obtain ⟨q', j', rfl, hj', c1, h1, rfl, hb2⟩ := hz k' cs' hk'
    have hb : (x.callee ks).loc (1000 + q) = some b := hb
    have hb' : (x.callee ks).loc (1000 + q') = some b := hb'
    rw [hb1] at hb; rw [hb2] at hb'
    have := hI.inj j j' c0 c1 b h0 h1 hb hb'
    subst this
    have hlt : q < ks.length := (List.getElem?_eq_some_iff.1 hj).1
    have hlt' : q' < ks.length := (List.getElem?_eq_some_iff.1 hj').1
    have e1 : ks[q] = ks[q'] := by
      rw [(List.getElem?_eq_some_iff.1 hj).2, (List.getElem?_eq_some_iff.1 hj').2]
    rw [(List.getElem_inj hnd).1 e1]
  · intro j v sz hj a n c hv hc
    subst hv
    obtain ⟨h1, k, h2⟩ := htok j a n c sz hj hc
    obtain ⟨cur, ty, p1, p2, p3, p4, p5, p6, p7⟩ := hI.tok k _ sz h2 a n c rfl hc
    exact ⟨cur, ty, p1, p2, .inr h1, p4, p5, p6, p7⟩
  · intro j a n c sz k cs hj hc hk
    obtain ⟨h1, k', h2⟩ := htok j a n c sz hj hc
    obtain ⟨q, j', rfl, hj', c0, h0, rfl, hb⟩ := hz k cs hk
    show (x.callee ks).loc (1000 + q) ≠ _
    rw [hb]
    exact hI.tokslot k' a n c sz j' c0 h2 hc h0
  · exact hone

/-- What a caller finds then. -/
theorem after_call (hI : Inv e x w m) {ks : List Nat} {ext : List (List AV)} (hnd : ks.Nodup) (hext : cellsOf m ks ks = some ext) {xc : X} {w' : World} {out : Out} {v : Value}
    (hlen : out.ext.length = ext.length) (hc : Inv ⟨e.P, w, { x.callee ks with tk := fun _ => none }, ks.filterMap x.loc, [], []⟩ xc w' (zipExt 1000 out.ext)) (hrep : Rep xc out.res v) (d : Option Tmp) :
    ∃ x', After e x x' w' m v (callEff ks d out) := by
  obtain ⟨hl1, hget⟩ := cellsOf_get hext
  have hE := slots_at (x := x) hext
  unfold callEff
  split
  · rename_i hx htok
    have hext0 : ext = [] := List.eq_nil_of_length_eq_zero (by rw [← hlen, hx]; rfl)
    have hks0 : ks = [] := List.eq_nil_of_length_eq_zero (by rw [← hl1, hext0]; rfl)
    have hc0 : Inv ⟨e.P, w, { x.callee ks with tk := fun _ => none }, ks.filterMap x.loc, [], []⟩ { xc with tk := fun _ => none } w' (zipExt 1000 out.ext) := by
      rw [hx] at hc ⊢
      refine ⟨hc.sub, fun k cs hk => by simp [zipExt, lookup] at hk, fun k k' cs cs' b hk => by simp [zipExt, lookup] at hk, fun k v sz hk => by simp at hk, fun k a n c sz j cs hk => by simp at hk, fun k k' a n c sz a' n' c' sz' hk => by simp at hk,
        hc.os, hc.tape, hc.output, hc.size, hc.old, hc.mono, hc.new, hc.ext, hc.low, hc.more.step (fun k b cs hk hb => ⟨cs, hk, hb, rfl⟩) (fun b arr ty hb => ⟨arr, ty, hb, Nat.le_refl _⟩) (fun _ _ => rfl) rfl (Nat.le_refl _), hc.glob⟩
    obtain ⟨q1, q2, q3⟩ := hI.behind hnd hext (by rw [hlen]) hE hc0 (d.getD 0) [] x.tk (fun j z hj => .inr ⟨rfl, hj⟩) (fun j z _ hj => hj) (fun i z _ hz => by simp at hz) (fun b hb => by cases hb)
    refine ⟨_, (hrep.noTok htok).back q3, ?_, q2⟩
    rw [hx] at q1
    subst hks0
    simpa [zipW, writes, scrubM_nil] using q1
  · generalize hD : d.getD 0 = D
    let tk' : Nat → Option (Value × Nat) := fun j => if mem j (toks8 D) then xc.tk (j - (1000 + 8 * D)) else x.tk j
    have g1 : ∀ j z, tk' j = some z → (mem j (toks8 D) = true ∧ ∃ i, xc.tk i = some z ∧ j = 1000 + 8 * D + i) ∨ (mem j (toks8 D) = false ∧ x.tk j = some z) := by
      intro j z hj
      simp only [tk'] at hj
      split at hj
      · rename_i hmj
        have := toks8_le D j hmj
        exact .inl ⟨hmj, _, hj, by omega⟩
      · rename_i hmj
        exact .inr ⟨by simpa using hmj, hj⟩
    have g2 : ∀ j z, mem j (toks8 D) = false → x.tk j = some z → tk' j = some z := by
      intro j z hmj hj
      simp only [tk', hmj]; exact hj
    have g3 : ∀ i z, i < 8 → xc.tk i = some z → tk' (1000 + 8 * D + i) = some z := by
      intro i z hi hz
      simp only [tk', toks8_mem D i hi, if_true]
      rw [Nat.add_sub_cancel_left]; exact hz
    obtain ⟨q1, q2, q3⟩ := hI.behind hnd hext (by rw [hlen]) hE hc D (toks8 D) tk' g1 g2 g3 (fun b hb => by cases hb)
    exact ⟨_, hrep.back q3, q1, q2⟩
theorem mem_append {k : Nat} : ∀ {a b : List Nat}, mem k (a ++ b) = (mem k a || mem k b)
  | [], b => by simp [mem]
  | j :: a, b => by simp only [List.cons_append, mem, mem_append (a := a), Bool.or_assoc]
theorem after_lend (hI : Inv e x w m) {ks : List Nat} {ext : List (List AV)} (hnd : ks.Nodup) (hext : cellsOf m ks ks = some ext) {xc : X} {w' : World} {out : Out} {v : Value} {args : List AV} {vs : List Value} (hT : RepL x args vs)
    (hlen : out.ext.length = ext.length) (hc : Inv ⟨e.P, w, { x.callee ks with tk := lentTk args vs }, ks.filterMap x.loc, [], lentBlocks args vs⟩ xc w' (zipExt 1000 out.ext)) (hrep : Rep xc out.res v) (d : Option Tmp) :
    ∃ x', After e x x' w' m v (lendEff ks d (topToks args) out) := by
  have hE := slots_at (x := x) hext
  unfold lendEff
  generalize hD : d.getD 0 = D
  let tk' : Nat → Option (Value × Nat) := fun j => if mem j (toks8 D) then xc.tk (j - (1000 + 8 * D)) else if mem j (topToks args) then none else x.tk j
  have g1 : ∀ j z, tk' j = some z → (mem j (topToks args ++ toks8 D) = true ∧ ∃ i, xc.tk i = some z ∧ j = 1000 + 8 * D + i) ∨ (mem j (topToks args ++ toks8 D) = false ∧ x.tk j = some z) := by
    intro j z hj
    simp only [tk'] at hj
    rw [mem_append]
    split at hj
    · rename_i hmj
      have := toks8_le D j hmj
      exact .inl ⟨by simp [hmj], _, hj, by omega⟩
    · rename_i hmj
      split at hj
      · cases hj
      · rename_i hmj2
        exact .inr ⟨by simp only [Bool.or_eq_false_iff]; exact ⟨by simpa using hmj2, by simpa using hmj⟩, hj⟩
  have g2 : ∀ j z, mem j (topToks args ++ toks8 D) = false → x.tk j = some z → tk' j = some z := by
    intro j z hmj hj
    rw [mem_append, Bool.or_eq_false_iff] at hmj
    simp only [tk', hmj.1, hmj.2]; exact hj
  have g3 : ∀ i z, i < 8 → xc.tk i = some z → tk' (1000 + 8 * D + i) = some z := by
    intro i z hi hz
    simp only [tk', toks8_mem D i hi, if_true]
    rw [Nat.add_sub_cancel_left]; exact hz
  obtain ⟨q1, q2, q3⟩ := hI.behind hnd hext (by rw [hlen]) hE hc D (topToks args ++ toks8 D) tk' g1 g2 g3 (fun b hb => by
    obtain ⟨j, a, n, c, sz, h1, h2, rfl⟩ := lentBlocks_get hb
    obtain ⟨k, b', h3, h4, h5⟩ := heldT_tok hT h1 h2
    exact ⟨k, a, n, c, sz, rfl, by rw [mem_append, mem_iff.2 (top_mem h4 h5)]; rfl, h3, h2⟩)
  exact ⟨_, hrep.back q3, q1, q2⟩

/-- A call, up to what is made of its end. -/
theorem call_sound {Φ : Orc} (hΦ : ∀ (R : Type) (f : FuncId) (args : List AV) (ext : List (List AV)) (k : Out → Option R) (r : R), Φ.call R f args ext k = some r → ∃ out, Contract e.P f args ext out ∧ k out = some r)
    (hI : Inv e x w m) {R : Type} {d : Option Tmp} {f : FuncId} {args : List AV} {vs : List Value} {k kp : Eff → Option R} {res : R} (hr : RepL x args vs) (h : callE Φ m d f args k kp = some res) :
    (∃ fn, e.P.funcs[f]? = some fn ∧ fn.body.isSome = true ∧ fn.name ≠ "runtime.NumGoroutine") ∧
    Calls e.P f ⟨vs⟩ w fun en w' => ∃ eff x' v, After e x x' w' m v eff ∧ ((en = .returned v ∧ k eff = some res) ∨ (en = .panicked [{ v, recovered := false }] ∧ kp eff = some res)) := by
  unfold callE at h
  simp only at h
  generalize hks : dedup (AV.slots args) = ks at h
  have hnd : ks.Nodup := by rw [← hks]; exact dedup_nodup _
  split at h
  · rename_i ext hext
    split at h
    · obtain ⟨out, ⟨hfn, hcon⟩, hk⟩ := hΦ R f _ ext _ res h
      refine ⟨hfn, ?_⟩
      have hpre := hI.enter hnd hext [] (ktk := fun _ => none) (L := []) (fun j a n c sz hj => by cases hj) (fun j j' a n c sz a' n' c' sz' hj => by cases hj) (fun b hb => by cases hb)
      refine (hcon w { x.callee ks with tk := fun _ => none } (ks.filterMap x.loc) [] vs (fun _ => ⟨rfl, fun _ => rfl⟩) hpre ((hr.passT (fun _ => none)).bare rfl ⟨rfl, rfl, rfl⟩)).mono ?_
      rintro en w' ⟨xc, v, hlen, hen, hc, hrep⟩
      obtain ⟨x', hx'⟩ := after_call hI hnd hext hlen hc hrep d
      refine ⟨_, x', v, hx', ?_⟩
      cases hp : out.pan with
      | false => simp only [hp] at hen hk; exact .inl ⟨by simpa using hen, hk⟩
      | true => simp only [hp] at hen hk; exact .inr ⟨by simpa using hen, hk⟩
    · split at h
      · rename_i hnt
        obtain ⟨out, ⟨hfn, hcon⟩, hk⟩ := hΦ R f _ ext _ res h
        refine ⟨hfn, ?_⟩
        have hget : ∀ j z, lentTk args vs j = some z → ∃ i, j = 500000 + i ∧ heldT args ⟨vs⟩ i = some z := by
          intro j z hj
          unfold lentTk at hj
          split at hj
          · exact ⟨j - 500000, by omega, hj⟩
          · cases hj
        have hpre := hI.enter hnd hext [] (ktk := lentTk args vs) (L := lentBlocks args vs) (fun j a n c sz hj hc => by
          obtain ⟨i, _, hi⟩ := hget j _ hj
          obtain ⟨k, _, h3, _⟩ := heldT_tok hr hi hc
          exact ⟨lentBlocks_mem hi hc, k, h3⟩) (fun j j' a n c sz a' n' c' sz' hj hj' hc hc' hab => by
          obtain ⟨i, rfl, hi⟩ := hget j _ hj
          obtain ⟨i', rfl, hi'⟩ := hget j' _ hj'
          obtain ⟨k, b, h3, h4, h5⟩ := heldT_tok hr hi hc
          obtain ⟨k', b', h3', h4', h5'⟩ := heldT_tok hr hi' hc'
          have := hI.toktok k k' a n c sz a' n' c' sz' h3 h3' hc hc' hab
          subst this
          rw [top_unique (nodup_iff hnt) h4 h4' h5 h5']) (fun b hb => by
          obtain ⟨j, a, n, c, sz, h1, h2, rfl⟩ := lentBlocks_get hb
          obtain ⟨k, b', h3, h4, h5⟩ := heldT_tok hr h1 h2
          exact ⟨k, a, n, c, sz, rfl, h3, h2⟩)
        refine (hcon w { x.callee ks with tk := lentTk args vs } (ks.filterMap x.loc) (lentBlocks args vs) vs (fun h => lent_none hr h) hpre (RepL.lend 0 hr fun q a v h1 h2 h3 => by rw [Nat.zero_add]; exact h3.lend h1 h2)).mono ?_
        rintro en w' ⟨xc, v, hlen, hen, hc, hrep⟩
        obtain ⟨x', hx'⟩ := after_lend hI hnd hext hr hlen hc hrep d
        refine ⟨_, x', v, hx', ?_⟩
        cases hp : out.pan with
        | false => simp only [hp] at hen hk; exact .inl ⟨by simpa using hen, hk⟩
        | true => simp only [hp] at hen hk; exact .inr ⟨by simpa using hen, hk⟩
      · cases h
  · cases h
end Go.Den
