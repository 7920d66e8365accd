import Derived.Test.YtlpnccpagikioaaDoorDen15
set_option linter.unusedVariables false
set_option linter.unusedSimpArgs false
set_option linter.unusedSectionVars false
/- What an operation's effect hangs on: its operands' values, and the slots that it touches. -/
namespace Go.Den
variable {P : Program} {Φ : Orc} {R : Type}

/-- Two states alike for some operands. -/
def AlikeAt (P : Program) (t t' : List AV) (ys : List Operand) : Prop := ∀ y ∈ ys, ∀ ty, evT P t ty y = evT P t' ty y

theorem evs_congr {t t' : List AV} : ∀ {ys : List Operand} {ts : List TypeId}, AlikeAt P t t' ys → evs P t ts ys = evs P t' ts ys
  | [], ts, _ => by cases ts <;> rfl
  | y :: ys, [], h => by simp only [evs]; rw [h y (by simp), evs_congr fun z hz => h z (by simp [hz])]
  | y :: ys, t0 :: ts, h => by simp only [evs]; rw [h y (by simp), evs_congr fun z hz => h z (by simp [hz])]
theorem parts_congr {t t' : List AV} {ty : TypeId} : ∀ {ps : List (Nat × Operand)} {cs : List AV}, AlikeAt P t t' (ps.map (·.2)) → parts P ty t ps cs = parts P ty t' ps cs
  | [], cs, _ => rfl
  | (i, y) :: ps, cs, h => by
    simp only [parts]
    split
    · rename_i off n ty' hp
      rw [h y (by simp)]
      split
      · split
        · split
          · exact parts_congr fun z hz => h z (by simp only [List.map_cons, List.mem_cons]; exact .inr hz)
          · rfl
        · rfl
      · rfl
    · rfl
theorem rowsOf_congr {t t' : List AV} {el : TypeId} {ks : List Kd} : ∀ {ps : List (Nat × Operand)} {rs : Rows}, AlikeAt P t t' (ps.map (·.2)) → rowsOf P el ks t ps rs = rowsOf P el ks t' ps rs
  | [], rs, _ => rfl
  | (i, y) :: ps, rs, h => by
    simp only [rowsOf]
    rw [h y (by simp)]
    split
    · split
      · split
        · exact rowsOf_congr fun z hz => h z (by simp only [List.map_cons, List.mem_cons]; exact .inr hz)
        · rfl
      · rfl
    · rfl
theorem evO_congr {t t' : List AV} {y : Option Operand} (h : ∀ z, y = some z → ∀ ty, evT P t ty z = evT P t' ty z) : evO P t y = evO P t' y := by
  cases y with
  | none => rfl
  | some z => simp only [evO]; rw [h z rfl]
theorem cellsOf_congr {m m' : Mem} {qs : List Nat} : ∀ {ks : List Nat}, (∀ k ∈ ks, lookup m k = lookup m' k) → cellsOf m qs ks = cellsOf m' qs ks
  | [], _ => rfl
  | k :: ks, h => by simp only [cellsOf]; rw [h k (by simp), cellsOf_congr fun j hj => h j (by simp [hj])]
/-- The slot that a pointer is into. -/
def ptrSlot : AV → Option Nat
  | .pl j _ => some j
  | .pa j _ _ _ => some j
  | _ => none
theorem lookupC_congr {m m' : Mem} {j : Nat} (h : lookup m j = lookup m' j) : lookupC m j = lookupC m' j := by unfold lookupC; rw [h]
theorem lookupA_congr {m m' : Mem} {j : Nat} (h : lookup m j = lookup m' j) : lookupA m j = lookupA m' j := by unfold lookupA; rw [h]
theorem loadE_congr {m m' : Mem} {t : TypeId} {a : AV} {k : Eff → Option R} (h : ∀ j, ptrSlot a = some j → lookup m j = lookup m' j) : loadE P m t a k = loadE P m' t a k := by
  cases a with
  | pl j off => simp only [loadE]; rw [lookupC_congr (h j rfl)]
  | pa j ks i q => simp only [loadE]; rw [lookupA_congr (h j rfl)]
  | _ => rfl
theorem storeE_congr {m m' : Mem} {t : TypeId} {a v : AV} {k : Eff → Option R} (h : ∀ j, ptrSlot a = some j → lookup m j = lookup m' j) : storeE P m t a v k = storeE P m' t a v k := by
  unfold storeE
  cases size? P t <;> cases a <;> try rfl
  · rename_i n j off
    cases v.cells <;> try rfl
    simp only [lookupC_congr (h j rfl)]
  · rename_i n j ks i q
    cases v.cells <;> try rfl
    simp only [lookupA_congr (h j rfl)]

theorem builtinE_congr {m m' : Mem} {d : Option Tmp} {b : Builtin} {ts : List TypeId} {args : List AV} {k : Eff → Option R} (h : ∀ j, (b = .clear ∨ b = .copy) ∧ mem j (AV.slots args) = true → lookup m j = lookup m' j) :
    builtinE P m d b ts args k = builtinE P m' d b ts args k := by
  unfold builtinE
  split <;> try rfl
  · rename_i j ks off n c
    have := h j ⟨.inl rfl, by simp [AV.slots, AV.slotsA, mem, beq_eq]⟩
    simp only [clearE, lookupA_congr this]
  · rename_i j ks off n c nl ks2 rows2 r2
    have := h j ⟨.inr rfl, by simp [AV.slots, AV.slotsA, mem, beq_eq]⟩
    simp only [copyE, lookupA_congr this]

theorem opE_congr {t t' : List AV} {m m' : Mem} {o : Oper} {k kp : Eff → Option R} (ht : AlikeAt P t t' o.op.operands.toList) (hm : ∀ j ∈ touch P t o, lookup m j = lookup m' j) :
    opE P Φ t m o k kp = opE P Φ t' m' o k kp := by
  have ev1 : ∀ {y : Operand} {ty : TypeId}, y ∈ o.op.operands.toList → evT P t ty y = evT P t' ty y := fun hy => ht _ hy _
  cases hop : o.op with
  | move y => simp only [opE, hop]; rw [ev1 (by simp [hop, Op.operands])]
  | assign y => simp only [opE, hop]; rw [ev1 (by simp [hop, Op.operands])]
  | pick c y z => simp only [opE, hop]; rw [ev1 (y := c) (by simp [hop, Op.operands]), ev1 (y := y) (by simp [hop, Op.operands]), ev1 (y := z) (by simp [hop, Op.operands])]
  | alloc e => simp only [opE, hop]
  | box e y => simp only [opE, hop]; rw [ev1 (y := y) (by simp [hop, Op.operands])]
  | build ty ps => simp only [opE, hop]; simp only [parts_congr (P := P) (t := t) (t' := t') (ps := ps.toList) fun z hz => ht z (by simpa [hop, Op.operands] using hz)]
  | buildSlice ty n ps =>
    simp only [opE, hop]
    simp only [rowsOf_congr (P := P) (t := t) (t' := t') (ps := ps.toList) fun z hz => ht z (by simpa [hop, Op.operands] using hz)]
  | load ty y =>
    simp only [opE, hop]
    rw [← ev1 (y := y) (by simp [hop, Op.operands])]
    split
    · rename_i v hv
      exact loadE_congr fun j hj => hm j (by cases v <;> simp [ptrSlot] at hj <;> subst hj <;> simp [touch, hop, hv])
    · rfl
  | store ty y z =>
    simp only [opE, hop]
    rw [← ev1 (y := y) (by simp [hop, Op.operands]), ← ev1 (y := z) (by simp [hop, Op.operands])]
    split
    · rename_i v u hv hu
      exact storeE_congr fun j hj => hm j (by cases v <;> simp [ptrSlot] at hj <;> subst hj <;> simp [touch, hop, hv])
    · rfl
  | nilCheck y => simp only [opE, hop]; rw [ev1 (y := y) (by simp [hop, Op.operands])]
  | binOp op ty y z u =>
    simp only [opE, hop]
    rw [ev1 (y := y) (by simp [hop, Op.operands]), ev1 (y := z) (by simp [hop, Op.operands])]
  | unOp op ty y => simp only [opE, hop]; rw [ev1 (y := y) (by simp [hop, Op.operands])]
  | convert s d y => simp only [opE, hop]; rw [ev1 (y := y) (by simp [hop, Op.operands])]
  | makeInterface ty y => simp only [opE, hop]; rw [ev1 (y := y) (by simp [hop, Op.operands])]
  | makeFunc f first caps =>
    have hc := evs_congr (P := P) (t := t) (t' := t') (ys := caps.toList) (ts := []) fun z hz => ht z (by simp [hop, Op.operands]; exact .inr (by simpa using hz))
    cases f <;> simp only [opE, hop, hc]
  | slice ty y lo hi mx =>
    simp only [opE, hop]
    rw [ev1 (y := y) (by simp [hop, Op.operands]), evO_congr (y := lo) fun z hz ty => ev1 (by subst hz; simp [hop, Op.operands]), evO_congr (y := hi) fun z hz ty => ev1 (by subst hz; simp [hop, Op.operands]),
      evO_congr (y := mx) fun z hz ty => ev1 (by subst hz; simp [hop, Op.operands])]
  | fieldAddr s y f => simp only [opE, hop]; rw [ev1 (y := y) (by simp [hop, Op.operands])]
  | field s y f => simp only [opE, hop]; rw [ev1 (y := y) (by simp [hop, Op.operands])]
  | indexAddr ty y z => simp only [opE, hop]; rw [ev1 (y := y) (by simp [hop, Op.operands]), ev1 (y := z) (by simp [hop, Op.operands])]
  | index ty y z => simp only [opE, hop]; rw [ev1 (y := y) (by simp [hop, Op.operands]), ev1 (y := z) (by simp [hop, Op.operands])]
  | typeAssert y a b c => cases c <;> simp only [opE, hop]; rw [ev1 (y := y) (by simp [hop, Op.operands])]
  | extract y i => simp only [opE, hop]; rw [ev1 (y := y) (by simp [hop, Op.operands])]
  | panic y => simp only [opE, hop]; rw [ev1 (y := y) (by simp [hop, Op.operands])]
  | call c =>
    obtain ⟨callee, ys, ts⟩ := c
    have hargs : evs P t ts.toList ys.toList = evs P t' ts.toList ys.toList := evs_congr fun z hz => ht z (by
      simp only [hop, Op.operands, Call.operands, Array.toList_append, List.mem_append]; exact .inr hz)
    cases callee with
    | value f =>
      simp only [opE, hop]
      have hf : evT P t 0 f = evT P t' 0 f := ev1 (by simp [hop, Op.operands, Call.operands])
      rw [← hf, ← hargs]
      split
      · rename_i g caps args hg ha
        unfold callE
        simp only
        rw [cellsOf_congr (m := m) (m' := m') fun j hj => hm j (by simp only [touch, hop, hg, ha]; exact hj)]
      · rfl
    | invoke r n => simp only [opE, hop]
    | builtin b =>
      simp only [opE, hop]
      rw [← hargs]
      split
      · rename_i args ha
        exact builtinE_congr fun j hj => hm j (by
          rcases hj with ⟨hb, hj⟩
          rcases hb with rfl | rfl
          · simp only [touch, hop, ha]; exact mem_iff.1 hj
          · simp only [touch, hop, ha]; exact mem_iff.1 hj)
      · rfl
  | _ => simp only [opE, hop]

/-- What an operation comes to is one effect, whatever stands behind. -/
def Gives (P : Program) (t : List AV) (m : Mem) (o : Oper) (eff : Eff) : Prop :=
  ∃ Φ' : Orc, OSound P Φ' ∧ ∀ (R : Type) (k kp : Eff → Option R), opE P Φ' t m o k kp = k eff
/-- The same of a panic. -/
def GivesP (P : Program) (t : List AV) (m : Mem) (o : Oper) (eff : Eff) : Prop :=
  ∃ Φ' : Orc, OSound P Φ' ∧ ∀ (R : Type) (k kp : Eff → Option R), opE P Φ' t m o k kp = kp eff
theorem osound_none (P : Program) (hs : List Nat) : OSound P ⟨fun _ _ _ _ _ => none, hs⟩ := fun _ _ _ _ _ _ h => by cases h
open Classical in
/-- The oracle that knows one call. -/
noncomputable def one (f0 : FuncId) (args0 : List AV) (ext0 : List (List AV)) (out : Out) (hs : List Nat) : Orc := ⟨fun _ f args ext k => if f = f0 ∧ args = args0 ∧ ext = ext0 then k out else none, hs⟩
theorem osound_one {P : Program} {f0 : FuncId} {args0 : List AV} {ext0 : List (List AV)} {out : Out} {hs : List Nat} (h : Contract P f0 args0 ext0 out) : OSound P (one f0 args0 ext0 out hs) := by
  intro R f args ext k r hr
  unfold one at hr
  simp only at hr
  split at hr
  · rename_i hc; obtain ⟨rfl, rfl, rfl⟩ := hc; exact ⟨out, h, hr⟩
  · cases hr

theorem loadE_pick {m : Mem} {t : TypeId} {a : AV} {k : Eff → Option R} {res : R} (h : loadE P m t a k = some res) : ∃ eff, k eff = some res ∧ ∀ (R : Type) (k : Eff → Option R), loadE P m t a k = k eff := by
  unfold loadE at h ⊢
  repeat' split at h
  all_goals first
    | cases h
    | exact ⟨_, h, fun R k => by first | (simp only [*, if_true, if_false]; done) | (subst_vars; simp_all)⟩
theorem storeE_pick {m : Mem} {t : TypeId} {a v : AV} {k : Eff → Option R} {res : R} (h : storeE P m t a v k = some res) : ∃ eff, k eff = some res ∧ ∀ (R : Type) (k : Eff → Option R), storeE P m t a v k = k eff := by
  unfold storeE at h ⊢
  repeat' split at h
  all_goals first
    | cases h
    | exact ⟨_, h, fun R k => by first | (simp only [*, if_true, if_false]; done) | (subst_vars; simp_all)⟩
theorem sliceE_pick {x : AV} {lo hi mx : Option AV} {k : Eff → Option R} {res : R} (h : sliceE x lo hi mx k = some res) : ∃ eff, k eff = some res ∧ ∀ (R : Type) (k : Eff → Option R), sliceE x lo hi mx k = k eff := by
  unfold sliceE at h ⊢
  repeat' split at h
  all_goals first
    | cases h
    | exact ⟨_, h, fun R k => by first | (simp only [*, if_true, if_false]; done) | (subst_vars; simp_all)⟩
theorem clearE_pick {m : Mem} {ts : List TypeId} {j : Nat} {ks : List Kd} {off n : Nat} {k : Eff → Option R} {res : R} (h : clearE P m ts j ks off n k = some res) : ∃ eff, k eff = some res ∧ ∀ (R : Type) (k : Eff → Option R), clearE P m ts j ks off n k = k eff := by
  unfold clearE at h ⊢
  repeat' split at h
  all_goals first
    | cases h
    | exact ⟨_, h, fun R k => by first | (simp only [*, if_true, if_false]; done) | (subst_vars; simp_all)⟩
theorem copyE_pick {m : Mem} {ts : List TypeId} {j : Nat} {ks : List Kd} {off n : Nat} {ks2 : List Kd} {rows2 : Rows} {k : Eff → Option R} {res : R} (h : copyE P m ts j ks off n ks2 rows2 k = some res) : ∃ eff, k eff = some res ∧ ∀ (R : Type) (k : Eff → Option R), copyE P m ts j ks off n ks2 rows2 k = k eff := by
  unfold copyE at h ⊢
  repeat' split at h
  all_goals first
    | cases h
    | exact ⟨_, h, fun R k => by first | (simp only [*, if_true, if_false]; done) | (subst_vars; simp_all)⟩
theorem builtinE_pick {m : Mem} {d : Option Tmp} {b : Builtin} {ts : List TypeId} {args : List AV} {k : Eff → Option R} {res : R} (h : builtinE P m d b ts args k = some res) : ∃ eff, k eff = some res ∧ ∀ (R : Type) (k : Eff → Option R), builtinE P m d b ts args k = k eff := by
  unfold builtinE at h ⊢
  repeat' split at h
  all_goals first
    | cases h
    | exact clearE_pick h
    | exact copyE_pick h
    | exact ⟨_, h, fun R k => by first | (simp only [*, if_true, if_false]; done) | (subst_vars; simp_all)⟩

theorem opE_pick {Φ : Orc} (hΦ : OSound P Φ) {t : List AV} {m : Mem} {o : Oper} {k kp : Eff → Option R} {res : R} (h : opE P Φ t m o k kp = some res) : (∃ eff, k eff = some res ∧ Gives P t m o eff) ∨ (∃ eff, kp eff = some res ∧ GivesP P t m o eff) := by
  unfold opE at h
  cases hop : o.op
  case call c =>
    obtain ⟨callee, ys, ts⟩ := c
    cases callee with
    | value f =>
      simp only [hop] at h
      split at h
      · rename_i f' caps args hf ha
        unfold callE at h
        simp only at h
        split at h
        · rename_i ext hx
          split at h
          · rename_i hle
            obtain ⟨out, hc, hk⟩ := hΦ R _ _ _ _ _ h
            cases hp : out.pan with
            | true =>
              rw [hp] at hk
              refine .inr ⟨_, hk, _, osound_one (hs := Φ.hs) hc, fun R' k' kp' => ?_⟩
              unfold opE callE
              simp only [hop, hf, ha, hx, one, hle, and_self, if_true, hp]
            | false =>
              rw [hp] at hk
              refine .inl ⟨_, hk, _, osound_one (hs := Φ.hs) hc, fun R' k' kp' => ?_⟩
              unfold opE callE
              simp only [hop, hf, ha, hx, one, hle, and_self, if_true, hp]
          · rename_i hle
            split at h
            · rename_i hnt
              obtain ⟨out, hc, hk⟩ := hΦ R _ _ _ _ _ h
              cases hp : out.pan with
              | true =>
                rw [hp] at hk
                refine .inr ⟨_, hk, _, osound_one (hs := Φ.hs) hc, fun R' k' kp' => ?_⟩
                unfold opE callE
                simp only [hop, hf, ha, hx, one, hle, hnt, and_self, if_true, hp]
              | false =>
                rw [hp] at hk
                refine .inl ⟨_, hk, _, osound_one (hs := Φ.hs) hc, fun R' k' kp' => ?_⟩
                unfold opE callE
                simp only [hop, hf, ha, hx, one, hle, hnt, and_self, if_true, hp]
            · cases h
        · cases h
      · cases h
    | invoke r n => simp only [hop] at h; cases h
    | builtin b =>
      simp only [hop] at h
      split at h
      · rename_i args ha
        obtain ⟨eff, h1, h2⟩ := builtinE_pick h
        exact .inl ⟨eff, h1, _, osound_none P Φ.hs, fun R' k' kp' => by unfold opE; simp only [hop, ha, h2]⟩
      · cases h
  case load ty y =>
    simp only [hop] at h
    split at h
    · rename_i v hv
      obtain ⟨eff, h1, h2⟩ := loadE_pick h
      exact .inl ⟨eff, h1, _, osound_none P Φ.hs, fun R' k' kp' => by unfold opE; simp only [hop, hv, h2]⟩
    · cases h
  case store ty y z =>
    simp only [hop] at h
    split at h
    · rename_i v u hv hu
      obtain ⟨eff, h1, h2⟩ := storeE_pick h
      exact .inl ⟨eff, h1, _, osound_none P Φ.hs, fun R' k' kp' => by unfold opE; simp only [hop, hv, hu, h2]⟩
    · cases h
  case slice ty y lo hi mx =>
    simp only [hop] at h
    repeat' split at h
    all_goals first
      | cases h; done
      | obtain ⟨eff, h1, h2⟩ := sliceE_pick h
        exact .inl ⟨eff, h1, _, osound_none P Φ.hs, fun R' k' kp' => by unfold opE; first | (simp only [hop, *, if_true]; done) | (simp_all; done)⟩
  case typeAssert y t0 t1 c => 
    cases c
    · simp only [hop] at h
      repeat' split at h
      all_goals first
        | cases h; done
        | exact .inl ⟨_, h, _, osound_none P Φ.hs, fun R k kp => by unfold opE; first | (simp only [hop, *, if_true]; done) | (subst_vars; simp_all; done)⟩
    · simp only [hop] at h; cases h
  case makeFunc f first caps =>
    cases f
    case func f =>
      simp only [hop] at h
      repeat' split at h
      all_goals first
        | cases h; done
        | exact .inl ⟨_, h, _, osound_none P Φ.hs, fun R k kp => by unfold opE; first | (simp only [hop, *, if_true]; done) | (subst_vars; simp_all; done)⟩
    all_goals simp only [hop] at h; cases h
  all_goals simp only [hop] at h
  all_goals try (repeat' split at h)
  all_goals first
    | cases h; done
    | exact .inr ⟨_, h, _, osound_none P Φ.hs, fun R k kp => by unfold opE; simp only [hop, *]; done⟩
    | exact .inl ⟨_, h, _, osound_none P Φ.hs, fun R k kp => by unfold opE; first | (simp only [hop, *, if_true, if_false]; done) | (subst_vars; simp_all; done)⟩
end Go.Den
