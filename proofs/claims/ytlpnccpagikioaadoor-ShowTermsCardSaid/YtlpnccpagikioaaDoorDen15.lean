import Derived.Test.YtlpnccpagikioaaDoorDen14
set_option linter.unusedVariables false
set_option linter.unusedSimpArgs false
set_option linter.unusedSectionVars false
/- A function whose body den goes through keeps its contract. -/
namespace Go.Den
variable {e : Env} {R : Type} {res : R}

/-- Rights forgotten, and new ones told. -/
theorem Inv.bare {x : X} {w : World} {m m' : Mem} (h : Inv e x w m) (tk' : Nat → Option (Value × Nat))
    (hm : ∀ k cs, lookup m' k = some cs → ∃ c0, lookup m k = some c0 ∧ cs = AV.bareL c0)
    (htok : ∀ k v sz, tk' k = some (v, sz) → TokOk e x w v sz)
    (htokslot : ∀ k a n c sz j cs, tk' k = some (.slice (some a) n c, sz) → 0 < c → lookup m j = some cs → x.loc j ≠ some a.block)
    (htoktok : ∀ k k' a n c sz a' n' c' sz', tk' k = some (.slice (some a) n c, sz) → tk' k' = some (.slice (some a') n' c', sz') → 0 < c → 0 < c' → a.block = a'.block → k = k') :
    Inv e { x with tk := tk' } w m' where
  sub := h.sub
  slot k cs hk := by
    obtain ⟨c0, h0, rfl⟩ := hm k cs hk
    obtain ⟨b, ty, arr, h1, h2, h3, h4, h5⟩ := h.slot k c0 h0
    exact ⟨b, ty, arr, h1, h2, h3, h4.bare (x := x) (x' := { x with tk := tk' }) rfl ⟨rfl, rfl, rfl⟩, h5⟩
  inj k k' cs cs' b hk hk' hb hb' := by
    obtain ⟨c0, h0, _⟩ := hm k cs hk
    obtain ⟨c1, h1, _⟩ := hm k' cs' hk'
    exact h.inj k k' c0 c1 b h0 h1 hb hb'
  tok := htok
  tokslot k a n c sz j cs hk hn hj hl := by
    obtain ⟨c0, h0, _⟩ := hm j cs hj
    exact htokslot k a n c sz j c0 hk hn h0 hl
  toktok := htoktok
  os := h.os
  tape := h.tape
  output := h.output
  size := h.size
  old := h.old
  mono := h.mono
  new := h.new
  ext := h.ext
  low := h.low
  glob := h.glob
  more := h.more.step (fun k b cs hk hb => by
    obtain ⟨c0, h0, _⟩ := hm k cs hk
    exact ⟨c0, h0, hb, rfl⟩) (fun b arr ty hb => ⟨arr, ty, hb, Nat.le_refl _⟩) (fun _ _ => rfl) rfl (Nat.le_refl _)

/-- Results, under tokens of their own. -/
theorem results_held {avs : List AV} {vs : List Value} {m m' : Mem} {x : X} {w : World} (hI : Inv e x w m) (hT : RepL x avs vs) (hn : nodup (topToks avs) = true)
    (hm : ∀ k cs, lookup m' k = some cs → ∃ c0, lookup m k = some c0 ∧ cs = AV.bareL c0) :
    ∃ x', Inv e x' w m' ∧ RepL x' (retokL 0 avs) vs := by
  have hn1 := nodup_iff hn
  have hfrom : ∀ j v sz, heldT avs ⟨vs⟩ j = some (v, sz) → ∃ r d, (r = .ex → ∀ a n c, v = .slice (some a) n c → ¬ 0 < c) ∧ (r ≠ .no ∧ r ≠ .old) ∧ RtOk x r d v sz ∧ ∃ b, avs[j]? = some b ∧ ∀ k, r = .tok k → k ∈ b.topTok := by
    intro j v sz h
    unfold heldT at h
    split at h
    · rename_i n ks rows hj
      obtain ⟨u, hu, hr⟩ := hT.get hj
      have : (⟨vs⟩ : Array Value).getD j undef = u := by rw [Array.getD_eq_getD_getElem?]; simp [hu]
      rw [this] at h
      split at h
      · rename_i he
        cases h
        cases hr with
        | sl _ _ _ _ _ hd hr => exact ⟨.ex, _, ex_room hd hr he, by simp, hr, _, hj, fun k hk => by cases hk⟩
      · cases h
    · rename_i n ks rows k hj
      obtain ⟨u, hu, hr⟩ := hT.get hj
      have : (⟨vs⟩ : Array Value).getD j undef = u := by rw [Array.getD_eq_getD_getElem?]; simp [hu]
      rw [this] at h
      cases h
      cases hr with
      | sl _ _ _ _ _ _ hr => exact ⟨.tok k, _, fun h => (by cases h), by simp, hr, _, hj, fun q hq => by cases hq; simp [AV.topTok, Right.toks]⟩
    · cases h
  refine ⟨{ x with tk := heldT avs ⟨vs⟩ }, hI.bare _ hm ?_ ?_ ?_, retokL_rep (x := x) (x' := { x with tk := heldT avs ⟨vs⟩ }) rfl ⟨rfl, rfl, rfl⟩ hT 0 ?_⟩
  · intro j v sz hj ad n c hv hlt
    obtain ⟨r, d, hr0, hr1, hr2, _⟩ := hfrom j v sz hj
    cases r with
    | no => exact absurd rfl hr1.1
    | old => exact absurd rfl hr1.2
    | ex => exact absurd hlt (hr0 rfl ad n c hv)
    | tok k => exact hI.tok k v sz hr2 ad n c hv hlt
  · intro j ad n c sz q cs hj hlt hq
    obtain ⟨r, d, hr0, hr1, hr2, _⟩ := hfrom j _ sz hj
    cases r with
    | no => exact absurd rfl hr1.1
    | old => exact absurd rfl hr1.2
    | ex => exact absurd hlt (hr0 rfl ad n c rfl)
    | tok k => exact hI.tokslot k ad n c sz q cs hr2 hlt hq
  · intro j j' ad n c sz ad' n' c' sz' hj hj' hlt hlt' hab
    obtain ⟨r, d, hr0, hr1, hr2, b, hb, hb2⟩ := hfrom j _ sz hj
    obtain ⟨r', d', hr0', hr1', hr2', b', hb', hb2'⟩ := hfrom j' _ sz' hj'
    cases r with
    | no => exact absurd rfl hr1.1
    | old => exact absurd rfl hr1.2
    | ex => exact absurd hlt (hr0 rfl ad n c rfl)
    | tok k =>
      cases r' with
      | no => exact absurd rfl hr1'.1
      | old => exact absurd rfl hr1'.2
      | ex => exact absurd hlt' (hr0' rfl ad' n' c' rfl)
      | tok k' =>
        have hkk := hI.toktok k k' ad n c sz ad' n' c' sz' hr2 hr2' hlt hlt' hab
        subst hkk
        exact top_unique hn1 hb hb' (hb2 k rfl) (hb2' k rfl)
  · intro i n ks rows r v hi hv hr
    simp only [Nat.zero_add]
    have : (⟨vs⟩ : Array Value).getD i undef = v := by rw [Array.getD_eq_getD_getElem?]; simp [hv]
    unfold heldT
    rw [hi, this]
    cases r with
    | no => cases hr
    | old => cases hr
    | ex => simp only [Right.held] at hr; simp only [hr]
    | tok k => rfl

theorem extOf_get {m : Mem} : ∀ {ext : List (List AV)} {i : Nat} {r : List (List AV)}, extOf m i ext = some r → r.length = ext.length ∧ ∀ (q : Nat) (cs : List AV), r[q]? = some cs → ∃ c0, lookup m (i + q) = some c0 ∧ cs = AV.bareL c0
  | [], i, r, h => by simp only [extOf, Option.some.injEq] at h; subst h; simp
  | c :: ext, i, r, h => by
    simp only [extOf] at h
    split at h
    · rename_i cs hcs
      split at h
      · rename_i r0 hr0
        cases h
        obtain ⟨h1, h2⟩ := extOf_get hr0
        refine ⟨by simp [h1], ?_⟩
        intro q cs' hq
        cases q with
        | zero => simp at hq; subst hq; exact ⟨cs, hcs, rfl⟩
        | succ q =>
          simp at hq
          obtain ⟨c0, h3, h4⟩ := h2 q cs' hq
          exact ⟨c0, by rw [← h3]; congr 1; omega, h4⟩
      · cases h
    · cases h
theorem ext_bare {m : Mem} {ext r : List (List AV)} (h : extOf m 1000 ext = some r) : ∀ k cs, lookup (zipExt 1000 r) k = some cs → ∃ c0, lookup m k = some c0 ∧ cs = AV.bareL c0 := by
  intro k cs hk
  rw [lookup_zipExt] at hk
  split at hk
  · rename_i hle
    obtain ⟨q, rfl⟩ : ∃ q, k = 1000 + q := ⟨k - 1000, by omega⟩
    rw [Nat.add_sub_cancel_left] at hk
    exact (extOf_get h).2 q cs hk
  · cases hk

theorem res_sound {P : Program} (hP : e.P = P) {x : X} {w : World} {s : St} {a : Act} (hs : StOk e x w s a) :
    ∀ {l : List ResultVar} {k : List AV → Option R}, resE P s l k = some res → ∃ avs vs, k avs = some res ∧ RepL x avs vs ∧
      (l.mapM (fun | .tmp t => pure (a.tmps.getD t undef) | .cell b t => do loadVar t (← asAddr (a.tmps.getD b undef)) : ResultVar → Sem Value)).run P w = .ok vs w
  | [], k, h => ⟨[], [], h, .nil, by simp⟩
  | .tmp t :: l, k, h => by
    simp only [resE] at h
    split at h
    · rename_i v hv
      obtain ⟨u, hu, hr⟩ := hs.tmps.get hv
      obtain ⟨avs, vs, h1, h2, h3⟩ := res_sound hP hs h
      refine ⟨v :: avs, u :: vs, h1, .cons _ _ _ _ hr h2, ?_⟩
      have : a.tmps.getD t undef = u := by rw [Array.getElem?_toList] at hu; rw [Array.getD_eq_getD_getElem?, hu]; rfl
      simp only [List.mapM_cons, Sem.run_bind, Sem.run_pure, Result.andThen_ok, h3, this]
    · cases h
  | .cell b t :: l, k, h => by
    subst hP
    simp only [resE] at h
    split at h
    · rename_i v hv
      obtain ⟨u, hu, hr⟩ := hs.tmps.get hv
      obtain ⟨r, z, h1, h2, h3⟩ := load_sound hs.inv hr h
      obtain ⟨avs, vs, h4, h5, h6⟩ := res_sound rfl hs h1
      refine ⟨r :: avs, z :: vs, h4, .cons _ _ _ _ h2 h5, ?_⟩
      have : a.tmps.getD b undef = u := by rw [Array.getElem?_toList] at hu; rw [Array.getD_eq_getD_getElem?, hu]; rfl
      have hload : (do loadVar t (← asAddr u) : Sem Value).run e.P w = .ok z w := by
        simp only [Instr.loadAt] at h3
        cases u with
        | pointer p =>
          cases p with
          | some ad => simpa [Instr.sureAddr, asAddr] using h3
          | none => simp [Instr.sureAddr, stuck] at h3
        | _ => simp [Instr.sureAddr, stuck] at h3
      simp only [List.mapM_cons, Sem.run_bind] at hload ⊢
      rw [this, hload]
      simp only [Result.andThen_ok, h6, Sem.run_pure]
    · cases h

theorem youngL_length : ∀ l : List AV, (youngL l).length = l.length
  | [] => rfl
  | a :: l => by simp [youngL, youngL_length l]
theorem Rep.young {x : X} {a : AV} {v : Value} (h : Rep x a v) : Rep x a.young v := by
  unfold AV.young
  split
  · cases h with
    | sl _ _ _ _ _ h1 _ => exact .sl _ _ _ _ _ h1 trivial
  · exact h
theorem RepL.young {x : X} : ∀ {l : List AV} {vs : List Value}, RepL x l vs → RepL x (youngL l) vs
  | _, _, .nil => .nil
  | _, _, .cons a v l vs ha hl => .cons _ _ _ _ ha.young (RepL.young hl)
/-- What a result is: one value, or several. -/
theorem canon_sound {avs : List AV} {vs : List Value} {m m' : Mem} {x : X} {w : World} {keep : Bool} {r : AV} (hI : Inv e x w m) (hT : RepL x avs vs) (h : canon keep avs = some r)
    (hm : ∀ k cs, lookup m' k = some cs → ∃ c0, lookup m k = some c0 ∧ cs = AV.bareL c0) :
    ∃ x', Inv e x' w m' ∧ Rep x' r (if h : (⟨vs⟩ : Array Value).size = 1 then (⟨vs⟩ : Array Value)[0] else .tuple ⟨vs⟩) := by
  have hfin : ∀ (x' : X) (l : List AV), RepL x' l vs → l.length = avs.length → ∀ r, (match l with | [v] => some v | l => some (.tup l)) = some r → Rep x' r (if h : (⟨vs⟩ : Array Value).size = 1 then (⟨vs⟩ : Array Value)[0] else .tuple ⟨vs⟩) := by
    intro x' l hl _ r hr
    have hlen := hl.length
    split at hr
    · rename_i v
      cases hr
      cases hl with
      | cons _ u _ vs2 h1 h2 =>
      cases h2
      simpa using h1
    · rename_i hne
      cases hr
      have : ¬ (⟨vs⟩ : Array Value).size = 1 := by
        intro h1
        have : l.length = 1 := by rw [hlen]; simpa using h1
        obtain ⟨v, rfl⟩ := List.length_eq_one_iff.1 this
        exact hne v rfl
      rw [dif_neg this]
      exact .tup _ _ hl
  unfold canon at h
  split at h
  · split at h
    · rename_i cs
      split at h
      · rename_i hn
        cases h
        cases hT with
        | cons _ v _ vs2 h1 h2 =>
        cases h2
        cases h1 with
        | agg _ us h1 =>
        obtain ⟨x', h3, h4⟩ := results_held hI h1.young hn hm
        exact ⟨x', h3, by simpa using Rep.agg _ _ h4⟩
      · cases h
    · split at h
      · rename_i hn
        have hT := hT.young
        obtain ⟨x', h1, h2⟩ := results_held hI hT hn hm
        refine ⟨x', h1, hfin x' (retokL 0 (youngL avs)) h2 (by rw [h2.length, ← hT.length]; exact youngL_length avs) r ?_⟩
        generalize youngL avs = avs' at h
        split at h
        · simpa [retokL] using h
        · rename_i hne
          split
          · rename_i v hv
            cases avs' with
            | nil => simp [retokL] at hv
            | cons b t =>
              cases t with
              | nil => exact absurd rfl (hne b)
              | cons c t => simp [retokL] at hv
          · exact h
      · cases h
  · refine ⟨{ x with tk := fun _ => none }, hI.bare _ hm (fun _ _ _ h => by cases h) (fun _ _ _ _ _ _ _ h => by cases h) (fun _ _ _ _ _ _ _ _ _ _ h => by cases h), hfin _ (AV.bareL avs) (hT.bare (x := x) (x' := { x with tk := fun _ => none }) rfl ⟨rfl, rfl, rfl⟩) (by rw [(hT.bare (x := x) (x' := { x with tk := fun _ => none }) rfl ⟨rfl, rfl, rfl⟩).length, hT.length]) r ?_⟩
    split at h
    · simpa [AV.bareL] using h
    · rename_i hne
      split
      · rename_i v hv
        cases avs with
        | nil => simp [AV.bareL] at hv
        | cons b t =>
          cases t with
          | nil => exact absurd rfl (hne b)
          | cons c t => simp [AV.bareL] at hv
      · exact h

theorem anyPrep_none {lv : Live} (h : anyPrep lv = false) (id : Nat) : prep lv id = [] := by
  have : live lv (1000000 + id) = none := by
    induction lv with
    | nil => rfl
    | cons z l ih =>
      obtain ⟨j, y⟩ := z
      simp only [anyPrep, Bool.or_eq_false_iff] at h
      simp only [live, beq_eq]
      have hj : j ≠ 1000000 + id := by
        rintro rfl
        have := h.1
        rw [show Nat.ble 1000000 (1000000 + id) = true by simp [Nat.ble_eq]] at this; cases this
      rw [if_neg hj]; exact ih h.2
  simp only [prep, this]
/-- A FUNCTION. -/
theorem fn_sound {P : Program} {Φ : Orc} (hΦ : OSound P Φ)
    (hdraw : ∀ (e : Env), e.P = P → ∀ (id : Nat) (ops : Array Oper) (K : Ex → St → Option Out) (res : Out) (Q : Exit → Act → World → Prop), KOk e K res Q → ∀ s x w a, StOk e x w s a → regA e.P Φ (fun v s => K (.pan v) s) ops.toList s (fun s => K .normal s) = some res → (Code.region id ops true).wp e.P Q a w)
    {f : FuncId} {fn : Func} (hf : P.funcs[f]? = some fn) (hname : fn.name ≠ "runtime.NumGoroutine") {lv : Live} {n : Nat} {keep : Bool} {args : List AV} {ext : List (List AV)} {out : Out}
    (h : denFn P Φ lv n fn keep args ext some = some out) : Contract P f args ext out := by
  unfold denFn at h
  split at h
  · cases h
  · rename_i c hc
    split at h
    · rename_i hle
      refine ⟨⟨fn, hf, by simp [hc], hname⟩, ?_⟩
      simp only [Bool.and_eq_true, Bool.not_eq_true', Bool.and_eq_false_iff] at hle
      intro w x E L vs htk hI hr
      have hlv : L = [] ∨ ∀ id, prep lv id = [] := by
        rcases hle.2 with h1 | h1
        · exact .inl (htk h1).1
        · exact .inr (anyPrep_none h1)
      refine calls_of_wp hf hc ?_
      refine den_sound (e := ⟨P, w, x, E, [], L⟩) hΦ (fun id ops K Q h1 => hdraw ⟨P, w, x, E, [], L⟩ rfl id ops K out Q h1) lv hlv n c _ _ ?_ _ x w _ ⟨hI, ?_, rfl⟩ h
      · intro ex En s1 x1 w1 a1 hk hs1 hex
        unfold fin at hk
        cases hex with
        | exit id => simp at hk
        | pan v u hv =>
          simp only at hk
          split at hk
          · rename_i ex hex
            cases hk
            refine ⟨hs1.defers, { x1 with tk := fun _ => none }, u, (extOf_get hex).1, rfl, hs1.inv.bare _ (ext_bare hex) (fun _ _ _ h => by cases h) (fun _ _ _ _ _ _ _ h => by cases h) (fun _ _ _ _ _ _ _ _ _ _ h => by cases h), hv.bare (x := x1) (x' := { x1 with tk := fun _ => none }) rfl ⟨rfl, rfl, rfl⟩⟩
          · cases hk
        | normal =>
          simp only at hk
          obtain ⟨avs, us, h1, h2, h3⟩ := res_sound (e := ⟨P, w, x, E, [], L⟩) rfl hs1 hk
          split at h1
          · rename_i r ex hr' hex
            cases h1
            obtain ⟨x', h4, h5⟩ := canon_sound hs1.inv h2 hr' (ext_bare hex)
            refine ⟨hs1.defers, _, ?_, x', _, (extOf_get hex).1, rfl, h4, h5⟩
            unfold results
            simp only [Sem.run_bind, Array.mapM_eq_mapM_toList, Sem.run_map]
            erw [h3]
            rfl
          · cases h1
        | ret =>
          simp only at hk
          obtain ⟨avs, us, h1, h2, h3⟩ := res_sound (e := ⟨P, w, x, E, [], L⟩) rfl hs1 hk
          split at h1
          · rename_i r ex hr' hex
            cases h1
            obtain ⟨x', h4, h5⟩ := canon_sound hs1.inv h2 hr' (ext_bare hex)
            refine ⟨hs1.defers, _, ?_, x', _, (extOf_get hex).1, rfl, h4, h5⟩
            unfold results
            simp only [Sem.run_bind, Array.mapM_eq_mapM_toList, Sem.run_map]
            erw [h3]
            rfl
          · cases h1
      · have h1 := hr.length
        have hgo : ∀ as : List AV, RepL x as vs → RepL x (as ++ List.replicate (fn.ntmps - args.length) .junk) (vs ++ List.replicate (fn.ntmps - vs.length) undef) := by
          intro as has
          rw [h1]; exact has.append (RepL.junks x _ undef)
        cases hl : live lv 999999 with
        | none => simpa [hl] using hgo args hr
        | some z => simpa [hl] using hgo _ (hr.olden hI.more.M0)
    · cases h
end Go.Den
