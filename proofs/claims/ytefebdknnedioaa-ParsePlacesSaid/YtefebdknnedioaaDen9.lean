import Derived.Test.YtefebdknnedioaaDen8
set_option linter.unusedVariables false
set_option linter.unusedSimpArgs false
set_option linter.unusedSectionVars false
/- Every operation is sound. -/
namespace Go.Den
variable {e : Env} {x : X} {w : World} {m : Mem} {tm : List AV} {a : Act} {next : Act → World → Prop} {Q : Exit → Act → World → Prop}

/-- What holds behind an operation. -/
def After (e : Env) (x x' : X) (w' : World) (m : Mem) (v : Value) : Eff → Prop
  | .pure r => Rep x' r v ∧ Inv e x' w' m ∧ Ext x x' [] []
  | .full r p ks wr => Rep x' r v ∧ Inv e x' w' (writes (scrubM p ks (dropAll m p)) wr) ∧ Ext x x' p ks

theorem scrubM_nil : ∀ m : Mem, scrubM [] [] m = m
  | [] => rfl
  | (k, cs) :: m => by simp only [scrubM, AV.scrubL_nil, scrubM_nil m]

mutual
theorem Rep.noTok {x : X} : ∀ {a v}, Rep x a v → a.hasTok = false → Rep { x with tk := fun _ => none } a v
  | _, _, .dv d v h, _ => .dv d v h
  | _, _, .sl n kd rows r v h hr, ht => by
    refine .sl n kd rows r v h ?_
    cases r with
    | no => trivial
    | ex => exact hr
    | tok k => simp [AV.hasTok] at ht
  | _, _, .agg cs vs h, ht => .agg cs vs (RepL.noTok h (by simpa [AV.hasTok] using ht))
  | _, _, .tup cs vs h, ht => .tup cs vs (RepL.noTok h (by simpa [AV.hasTok] using ht))
  | _, _, .pl k off b h, _ => .pl k off b h
  | _, _, .pv kd row off b o h1 h2, _ => .pv kd row off b o h1 h2
  | _, _, .fn f cs vs h, ht => .fn f cs vs (RepL.noTok h (by simpa [AV.hasTok] using ht))
  | _, _, .ifc t a v h, ht => .ifc t a v (Rep.noTok h (by simpa [AV.hasTok] using ht))
  | _, _, .ms k kd off n c b o h g1 g2, _ => .ms k kd off n c b o h g1 g2
  | _, _, .pa k kd i j b h, _ => .pa k kd i j b h
  | _, _, .junk v, _ => .junk v
theorem RepL.noTok {x : X} : ∀ {l vs}, RepL x l vs → AV.hasTokL l = false → RepL { x with tk := fun _ => none } l vs
  | _, _, .nil, _ => .nil
  | _, _, .cons a v l vs ha hl, ht => by
    simp only [AV.hasTokL, Bool.or_eq_false_iff] at ht
    exact .cons a v l vs (Rep.noTok ha ht.1) (RepL.noTok hl ht.2)
end

theorem toks8_mem (D i : Nat) (hi : i < 8) : mem (1000 + 8 * D + i) (toks8 D) = true := by
  rw [mem_iff]
  unfold toks8
  simp only [List.mem_cons, List.not_mem_nil, or_false]
  omega
theorem toks8_le (D j : Nat) (hj : mem j (toks8 D) = true) : 1000 + 8 * D ≤ j := by
  rw [mem_iff] at hj
  unfold toks8 at hj
  simp only [List.mem_cons, List.not_mem_nil, or_false] at hj
  omega

/-- A call, up to what is made of its end. -/
theorem call_sound {Φ : Orc} (hΦ : ∀ (R : Type) (f : FuncId) (args : List AV) (ext : List (List AV)) (k : Out → Option R) (r : R), Φ.call R f args ext k = some r → ∃ out, Contract e.P f args ext out ∧ k out = some r)
    (hI : Inv e x w m) {R : Type} {d : Option Tmp} {f : FuncId} {args : List AV} {vs : List Value} {k kp : Eff → Option R} {res : R} (hr : RepL x args vs) (h : callE Φ m d f args k kp = some res) :
    (∃ fn, e.P.funcs[f]? = some fn ∧ fn.body.isSome = true ∧ fn.name ≠ "runtime.NumGoroutine") ∧
    Calls e.P f ⟨vs⟩ w fun en w' => ∃ eff x' v, After e x x' w' m v eff ∧ ((en = .returned v ∧ k eff = some res) ∨ (en = .panicked [{ v, recovered := false }] ∧ kp eff = some res)) := by
  unfold callE at h
  simp only at h
  generalize hks : dedup (AV.slots args) = ks at h
  have hnd : ks.Nodup := by rw [← hks]; exact dedup_nodup _
  split at h
  · rename_i ext hext
    obtain ⟨out, ⟨hfn, hcon⟩, hk⟩ := hΦ R f _ ext _ res h
    refine ⟨hfn, ?_⟩
    obtain ⟨hl1, hget⟩ := cellsOf_get hext
    let E : List Nat := ks.filterMap x.loc
    have hE : ∀ b, b ∈ E → ∃ k cs, lookup m k = some cs ∧ x.loc k = some b ∧ k ∈ ks := by
      intro b hb
      obtain ⟨k, hk1, hk2⟩ := List.mem_filterMap.1 hb
      obtain ⟨i, hi⟩ := List.getElem?_of_mem hk1
      obtain ⟨cs, hcs, _⟩ := hget i k hi
      exact ⟨k, cs, hcs, hk2, hk1⟩
    have hz : ∀ k cs, lookup (zipExt 1000 ext) k = some cs → ∃ (q j : Nat), k = 1000 + q ∧ ks[q]? = some j ∧ ∃ c0, lookup m j = some c0 ∧ cs = AV.passL ks c0 ∧ (x.callee ks).loc k = x.loc j := by
      intro k cs hk
      rw [lookup_zipExt] at hk
      split at hk
      · rename_i hle
        obtain ⟨q, rfl⟩ : ∃ q, k = 1000 + q := ⟨k - 1000, by omega⟩
        rw [Nat.add_sub_cancel_left] at hk
        have hlt : q < ks.length := by rw [← hl1]; exact (List.getElem?_eq_some_iff.1 hk).1
        obtain ⟨c0, h0, h1⟩ := hget q (ks[q]'hlt) (List.getElem?_eq_getElem hlt)
        rw [hk] at h1
        refine ⟨q, ks[q]'hlt, rfl, List.getElem?_eq_getElem hlt, c0, h0, Option.some.inj h1, ?_⟩
        simp only [X.callee]
        rw [if_pos (by omega), Nat.add_sub_cancel_left, List.getElem?_eq_getElem hlt]; rfl
      · cases hk
    have hpre : Inv ⟨e.P, w, x.callee ks, E, []⟩ (x.callee ks) w (zipExt 1000 ext) := by
      refine ⟨hI.sub, ?_, ?_, fun k v sz hk => by simp [X.callee] at hk, fun k a n c sz j cs hk => by simp [X.callee] at hk, fun k k' a n c sz a' n' c' sz' hk => by simp [X.callee] at hk,
        rfl, rfl, rfl, Nat.le_refl _, fun _ _ _ => rfl, Sub.refl _, fun _ _ _ h => .inl h, fun _ _ => rfl⟩
      · intro k cs hk
        obtain ⟨q, j, rfl, hj, c0, h0, rfl, hb⟩ := hz k cs hk
        obtain ⟨b, ty, arr, p1, p2, p3, p4, p5⟩ := hI.slot j c0 h0
        exact ⟨b, ty, arr, by rw [hb]; exact p1, .inr ⟨List.mem_filterMap.2 ⟨j, List.mem_of_getElem? hj, p1⟩, by omega⟩, p3, p4.pass, p5⟩
      · intro k k' cs cs' b hk hk' hb hb'
        obtain ⟨q, j, rfl, hj, c0, h0, rfl, hb1⟩ := hz k cs hk
        obtain ⟨q', j', rfl, hj', c1, h1, rfl, hb2⟩ := hz k' cs' hk'
        rw [hb1] at hb; rw [hb2] at hb'
        have := hI.inj j j' c0 c1 b h0 h1 hb hb'
        subst this
        have hlt : q < ks.length := (List.getElem?_eq_some_iff.1 hj).1
        have hlt' : q' < ks.length := (List.getElem?_eq_some_iff.1 hj').1
        have e1 : ks[q] = ks[q'] := by
          rw [(List.getElem?_eq_some_iff.1 hj).2, (List.getElem?_eq_some_iff.1 hj').2]
        rw [(List.getElem_inj hnd).1 e1]
    refine (hcon w (x.callee ks) E vs (fun _ => rfl) hpre (by simpa using hr.pass)).mono ?_
    rintro en w' ⟨xc, v, hlen, hen, hc, hrep⟩
    -- the effect, whichever
    have hafter : ∃ x', After e x x' w' m v (callEff ks d out) := by
      unfold callEff
      split
      · rename_i hx htok
        have hext0 : ext = [] := List.eq_nil_of_length_eq_zero (by rw [← hlen, hx]; rfl)
        have hks0 : ks = [] := List.eq_nil_of_length_eq_zero (by rw [← hl1, hext0]; rfl)
        have hc0 : Inv ⟨e.P, w, x.callee ks, E, []⟩ { xc with tk := fun _ => none } w' (zipExt 1000 out.ext) := by
          rw [hx] at hc ⊢
          refine ⟨hc.sub, fun k cs hk => by simp [zipExt, lookup] at hk, fun k k' cs cs' b hk => by simp [zipExt, lookup] at hk, fun k v sz hk => by simp at hk, fun k a n c sz j cs hk => by simp at hk, fun k k' a n c sz a' n' c' sz' hk => by simp at hk,
            hc.os, hc.tape, hc.output, hc.size, hc.old, hc.mono, hc.new, hc.ext⟩
        obtain ⟨q1, q2, q3⟩ := hI.behind hnd hext (by rw [hlen]) hE hc0 (d.getD 0) [] x.tk (fun j z hj => .inr ⟨rfl, hj⟩) (fun j z _ hj => hj) (fun i z _ hz => by simp at hz)
        refine ⟨_, (hrep.noTok htok).back q3, ?_, q2⟩
        rw [hx] at q1
        subst hks0
        simpa [zipW, writes, scrubM_nil] using q1
      · generalize hD : d.getD 0 = D
        let tk' : Nat → Option (Value × Nat) := fun j => if mem j (toks8 D) then xc.tk (j - (1000 + 8 * D)) else x.tk j
        have g1 : ∀ j z, tk' j = some z → (mem j (toks8 D) = true ∧ ∃ i, xc.tk i = some z ∧ j = 1000 + 8 * D + i) ∨ (mem j (toks8 D) = false ∧ x.tk j = some z) := by
          intro j z hj
          simp only [tk'] at hj
          split at hj
          · rename_i hmj
            have := toks8_le D j hmj
            exact .inl ⟨hmj, _, hj, by omega⟩
          · rename_i hmj
            exact .inr ⟨by simpa using hmj, hj⟩
        have g2 : ∀ j z, mem j (toks8 D) = false → x.tk j = some z → tk' j = some z := by
          intro j z hmj hj
          simp only [tk', hmj]; exact hj
        have g3 : ∀ i z, i < 8 → xc.tk i = some z → tk' (1000 + 8 * D + i) = some z := by
          intro i z hi hz
          simp only [tk', toks8_mem D i hi, if_true]
          rw [Nat.add_sub_cancel_left]; exact hz
        obtain ⟨q1, q2, q3⟩ := hI.behind hnd hext (by rw [hlen]) hE hc D (toks8 D) tk' g1 g2 g3
        exact ⟨_, hrep.back q3, q1, q2⟩
    obtain ⟨x', hx'⟩ := hafter
    refine ⟨_, x', v, hx', ?_⟩
    cases hp : out.pan with
    | false => simp only [hp] at hen hk; exact .inl ⟨by simpa using hen, hk⟩
    | true => simp only [hp] at hen hk; exact .inr ⟨by simpa using hen, hk⟩
  · cases h
end Go.Den
