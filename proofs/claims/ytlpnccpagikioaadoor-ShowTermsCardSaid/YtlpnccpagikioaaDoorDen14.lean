import Derived.Test.YtlpnccpagikioaaDoorDenQ
set_option linter.unusedVariables false
set_option linter.unusedSimpArgs false
set_option linter.unusedSectionVars false
/- Regions, code, loops. -/
namespace Go.Den
variable {e : Env} {R : Type} {res : R}

theorem RepL.setT {x : X} {l : List AV} {a : Act} (h : RepL x l a.tmps.toList) (d : Option Tmp) {r : AV} {v : Value} (hr : Rep x r v) : RepL x (setT l d r) (a.put d v).tmps.toList := by
  cases d with
  | none => exact h
  | some d => simp only [Den.setT, Act.put, Array.toList_setIfInBounds]; exact h.set d hr

theorem StOk.apply {x x' : X} {w w' : World} {s : St} {a : Act} (h : StOk e x w s a) {eff : Eff} {v : Value} (ha : After e x x' w' s.m v eff) (d : Option Tmp) : StOk e x' w' (s.apply d eff) (a.put d v) := by
  have hdef : (a.put d v).defers = e.D := by cases d <;> exact h.defers
  cases eff with
  | pure r => exact ⟨ha.2.1, (h.tmps.mono ha.2.2).setT d ha.1, hdef⟩
  | full r p ks wr => exact ⟨ha.2.1, (h.tmps.scrub ha.2.2).setT d ha.1, hdef⟩
theorem StOk.apply_none {x x' : X} {w w' : World} {s : St} {a : Act} (h : StOk e x w s a) {eff : Eff} {v : Value} (ha : After e x x' w' s.m v eff) : StOk e x' w' (s.apply none eff) a ∧ Rep x' eff.val v := by
  refine ⟨h.apply ha none, ?_⟩
  cases eff with
  | pure r => exact ha.1
  | full r p ks wr => exact ha.1

/-- What panics go to. -/
def PanOk (e : Env) (kp : AV → St → Option R) (res : R) (Q : Exit → Act → World → Prop) : Prop :=
  ∀ v s' x' w' a' u, kp v s' = some res → StOk e x' w' s' a' → Rep x' v u → Q (.panic [{ v := u, recovered := false }]) a' w'

theorem step_sound {Φ : Orc} (hΦ : OSound e.P Φ) {o : Oper} {x : X} {w : World} {s : St} {a : Act} {k : St → Option R} {kp : AV → St → Option R} {next : Act → World → Prop} {Q : Exit → Act → World → Prop}
    (hs : StOk e x w s a) (h : stepE e.P Φ o s k kp = some res) (hk : ∀ s' x' w' a', k s' = some res → StOk e x' w' s' a' → next a' w') (hkp : PanOk e kp res Q) : o.wp e.P a w next Q := by
  unfold stepE at h
  refine op_sound hΦ hs.inv hs.tmps ?_ ?_ h
  · intro eff x' w' v hk' ha
    exact hk _ x' w' _ hk' (hs.apply ha o.dst)
  · intro eff x' w' v hk' ha
    obtain ⟨h1, h2⟩ := hs.apply_none ha
    exact hkp _ _ x' w' a v hk' h1 h2

theorem guardTmp_get : ∀ (l : List Oper) (j : Nat), guardTmp l j = (l[j]?).bind (·.dst)
  | [], j => by simp [guardTmp]
  | o :: l, 0 => by simp [guardTmp]
  | o :: l, j + 1 => by simp [guardTmp, guardTmp_get l j]

theorem StOk.setB {x : X} {w : World} {s : St} {a : Act} (h : StOk e x w s a) {d : Nat} {b : Bool} (hd : s.t[d]? = some (.dv (.val (.bool b)))) : StOk e x w { t := s.t.set d (.B b), m := s.m } a ∧ a.tmps[d]? = some (.bool b) := by
  obtain ⟨v, hv, hr⟩ := h.tmps.get hd
  obtain rfl := Rep.val hr
  refine ⟨⟨h.inv, ?_, h.defers⟩, by rw [← Array.getElem?_toList]; exact hv⟩
  have := h.tmps.set d (rep_val x (v := .bool b) rfl)
  have e1 : a.tmps.toList.set d (.bool b) = a.tmps.toList := by
    apply List.ext_getElem?
    intro i
    by_cases hi : d = i
    · subst hi
      have hlt : d < a.tmps.toList.length := (List.getElem?_eq_some_iff.1 hv).1
      rw [List.getElem?_set_self hlt, hv]
    · rw [List.getElem?_set_ne hi]
  rw [e1] at this
  exact this

theorem reg_sound {Φ : Orc} (hΦ : OSound e.P Φ) (lv : Live) (hlv : e.L = [] ∨ ∀ id, prep lv id = []) (ops : Array Oper) {k : St → Option R} {kp : AV → St → Option R} {Q : Exit → Act → World → Prop}
    (hk : ∀ s' x' w' a', k s' = some res → StOk e x' w' s' a' → Q .normal a' w') (hkp : PanOk e kp res Q) :
    ∀ (l : List Oper) (i : Nat), (∀ j, l[j]? = ops[i + j]?) → ∀ (s : St) (x : X) (w : World) (a : Act), StOk e x w s a → regE e.P Φ lv ops.toList l s k kp = some res → wpOps e.P ops Q (List.range' i l.length) a w
  | [], i, _, s, x, w, a, hs, h => by
    simp only [regE] at h
    exact hk s x w a h hs
  | o :: l, i, hl, s, x, w, a, hs, h => by
    have ho : ops[i]? = some o := by have := hl 0; simpa using this.symm
    have ih := reg_sound hΦ lv hlv ops hk hkp l (i + 1) (fun j => by have := hl (j + 1); simp only [List.getElem?_cons_succ] at this; rw [this]; congr 1; omega)
    rw [List.length_cons, List.range'_succ, wpOps_cons]
    simp only [wpOp, ho]
    simp only [regE] at h
    obtain ⟨x, s, hs, h⟩ := pre_sound (hlv.elim .inl fun h => .inr (by unfold opPrep; split <;> first | exact h _ | rfl)) hs h
    unfold reg1 at h
    split at h
    · rename_i hg
      have hw : Region.wanted o (yielded ops a.tmps) = true := by simp [Region.wanted, hg]
      rw [if_pos hw]
      exact .inl (step_sound hΦ hs h (fun s' x' w' a' h1 h2 => ih s' x' w' a' h2 h1) hkp)
    · rename_i j want hg
      split at h
      · cases h
      · rename_i d hd
        split at h
        · rename_i b hb
          obtain ⟨hs', hv⟩ := hs.setB hb
          have hy : yielded ops a.tmps j = some b := by
            rw [guardTmp_get, Array.getElem?_toList] at hd
            simp [yielded, hd, hv]
          have hwant : Region.wanted o (yielded ops a.tmps) = (b == want) := by
            simp only [Region.wanted, hg, hy]
            cases b <;> cases want <;> rfl
          rw [hwant]
          cases b <;> cases want
          · simp only at h
            rw [if_pos (by decide)]
            exact .inl (step_sound hΦ hs' h (fun s' x' w' a' h1 h2 => ih s' x' w' a' h2 h1) hkp)
          · simp only at h
            rw [if_neg (by decide)]
            exact ih { t := setT (s.t.set d (.B false)) o.dst (.tup []), m := s.m } x w _ ⟨hs'.inv, hs'.tmps.setT o.dst (.tup [] [] .nil), by cases o.dst <;> exact hs'.defers⟩ h
          · simp only at h
            rw [if_neg (by decide)]
            exact ih { t := setT (s.t.set d (.B true)) o.dst (.tup []), m := s.m } x w _ ⟨hs'.inv, hs'.tmps.setT o.dst (.tup [] [] .nil), by cases o.dst <;> exact hs'.defers⟩ h
          · simp only at h
            rw [if_pos (by decide)]
            exact .inl (step_sound hΦ hs' h (fun s' x' w' a' h1 h2 => ih s' x' w' a' h2 h1) hkp)
        · rename_i hb
          obtain ⟨v, hv, hr⟩ := hs.tmps.get hb
          have hv' : v = undef := by cases hr with | tup _ _ hl => cases hl; rfl
          subst hv'
          have hy : yielded ops a.tmps j = none := by
            rw [guardTmp_get, Array.getElem?_toList] at hd
            rw [Array.getElem?_toList] at hv
            simp [yielded, hd, hv, undef]
          have hwant : Region.wanted o (yielded ops a.tmps) = false := by
            simp [Region.wanted, hg, hy]
          rw [hwant, if_neg (by decide)]
          exact ih { t := setT s.t o.dst (.tup []), m := s.m } x w _ ⟨hs.inv, hs.tmps.setT o.dst (.tup [] [] .nil), by cases o.dst <;> exact hs.defers⟩ h
        · cases h

/-- An abstract exit, and the machine's. -/
inductive ExRel (x : X) : Ex → Exit → Prop
  | normal : ExRel x .normal .normal
  | exit (id : Nat) : ExRel x (.exit id) (.exit id)
  | ret : ExRel x .ret .ret
  | pan (v : AV) (u : Value) : Rep x v u → ExRel x (.pan v) (.panic [{ v := u, recovered := false }])

/-- What K answers is what Q says. -/
def KOk (e : Env) (K : Ex → St → Option R) (res : R) (Q : Exit → Act → World → Prop) : Prop :=
  ∀ ex E s x w a, K ex s = some res → StOk e x w s a → ExRel x ex E → Q E a w

theorem reg_code {Φ : Orc} (hΦ : OSound e.P Φ) {lv : Live} (hlv : e.L = [] ∨ ∀ id, prep lv id = []) {id : Nat} {ops : Array Oper} {K : Ex → St → Option R} {Q : Exit → Act → World → Prop} (hK : KOk e K res Q) {s : St} {x : X} {w : World} {a : Act} (hs : StOk e x w s a)
    (h : regE e.P Φ lv ops.toList ops.toList s (fun s => K .normal s) (fun v s => K (.pan v) s) = some res) : (Code.region id ops false).wp e.P Q a w := by
  refine wp_region ?_
  rw [List.range_eq_range', ← Array.length_toList]
  exact reg_sound hΦ lv hlv ops (fun s' x' w' a' h1 h2 => hK .normal .normal s' x' w' a' h1 h2 .normal) (fun v s' x' w' a' u h1 h2 h3 => hK (.pan v) _ s' x' w' a' h1 h2 (.pan v u h3)) ops.toList 0 (fun j => by simp) s x w a hs h

/-! a loop's head -/
theorem RepL.keep {x : X} (tl : List Nat) : ∀ {l vs}, RepL x l vs → ∀ i, RepL x (keepT tl i l) vs
  | _, _, .nil, i => .nil
  | _, _, .cons a v l vs ha hl, i => by
    simp only [keepT]
    refine .cons _ _ _ _ ?_ (RepL.keep tl hl (i + 1))
    split
    · exact ha
    · exact .junk v
theorem memTok_mem : ∀ {m : Mem} {q : Nat} {cs : List AV} {i : Nat} {a : AV} {k : Nat}, lookup m q = some cs → cs[i]? = some a → k ∈ a.topTok → k ∈ memToks m
  | [], q, cs, i, a, k, h, _, _ => by simp [lookup] at h
  | (j, ds) :: m, q, cs, i, a, k, h, hi, hk => by
    simp only [lookup, beq_eq] at h
    simp only [memToks, List.mem_append]
    split at h
    · cases h; exact .inl (top_mem hi hk)
    · exact .inr (memTok_mem h hi hk)
theorem mem_unique : ∀ {m : Mem}, (memToks m).Nodup → ∀ {q q' : Nat} {cs cs' : List AV} {i j : Nat} {a b : AV} {k : Nat}, lookup m q = some cs → lookup m q' = some cs' → cs[i]? = some a → cs'[j]? = some b → k ∈ a.topTok → k ∈ b.topTok → q = q' ∧ i = j
  | [], _, q, q', cs, cs', i, j, a, b, k, h, _, _, _, _, _ => by simp [lookup] at h
  | (p, ds) :: m, hn, q, q', cs, cs', i, j, a, b, k, h, h', hi, hj, ha, hb => by
    simp only [memToks] at hn
    obtain ⟨h1, h2, h3⟩ := List.nodup_append.1 hn
    simp only [lookup, beq_eq] at h h'
    split at h
    · rename_i hp
      cases h
      split at h'
      · rename_i hp'
        cases h'
        exact ⟨by rw [← hp, ← hp'], top_unique h1 hi hj ha hb⟩
      · exact absurd rfl (h3 k (top_mem hi ha) k (memTok_mem h' hj hb))
    · split at h'
      · cases h'
        exact absurd rfl (h3 k (top_mem hj hb) k (memTok_mem h hi ha))
      · exact mem_unique h2 h h' hi hj ha hb

theorem lookup_keepM (ml : List Nat) : ∀ (m : Mem) (k : Nat), lookup (keepM ml m) k = if mem k ml then lookup m k else none
  | [], k => by simp [keepM, lookup]
  | (j, cs) :: m, k => by
    simp only [keepM]
    split
    · rename_i hj
      simp only [lookup, beq_eq, lookup_keepM ml m k]
      by_cases h : j = k
      · subst h; simp [hj]
      · simp [h]
    · rename_i hj
      rw [lookup_keepM ml m k]
      simp only [lookup, beq_eq]
      by_cases h : j = k
      · subst h; simp [hj]
      · simp [h]
theorem deadM_mem (ml : List Nat) : ∀ (m : Mem) (k : Nat), mem k ml = true → mem k (deadM ml m) = false
  | [], k, _ => rfl
  | (j, cs) :: m, k, h => by
    simp only [deadM]
    split
    · exact deadM_mem ml m k h
    · rename_i hj
      simp only [mem, Bool.or_eq_false_iff]
      refine ⟨?_, deadM_mem ml m k h⟩
      cases hb : Nat.beq j k with
      | false => rfl
      | true => rw [beq_eq.1 hb] at hj; exact absurd h hj
theorem lookup_retokM : ∀ (m : Mem) (k : Nat), lookup (retokM m) k = (lookup m k).map (retokL (20000 + 64 * k))
  | [], k => rfl
  | (j, cs) :: m, k => by
    simp only [retokM, lookup, beq_eq, lookup_retokM m k]
    by_cases h : j = k
    · subst h; simp
    · simp [h]
theorem shortM_get : ∀ {m : Mem}, shortM m = true → ∀ {k : Nat} {cs : List AV}, lookup m k = some cs → cs.length ≤ 64
  | [], _, k, cs, h => by simp [lookup] at h
  | (j, ds) :: m, hs, k, cs, h => by
    simp only [shortM, Bool.and_eq_true, Nat.ble_eq] at hs
    simp only [lookup, beq_eq] at h
    split at h
    · cases h; exact hs.1
    · exact shortM_get hs.2 h

def heldM (m : Mem) (loc : Nat → Option Nat) (w : World) (j : Nat) : Option (Value × Nat) :=
  match lookup m (j / 64), loc (j / 64) with
  | some cs, some b => match cs[j % 64]?, w.cell? ⟨b, j % 64, none⟩ with
    | some (.sl _ ks rows .ex), some v => match rows.isEmpty with | true => some (v, ks.length) | false => none
    | some (.sl _ ks _ (.tok _)), some v => some (v, ks.length)
    | _, _ => none
  | _, _ => none

theorem retokL_rep {x x' : X} (hM : x'.M = x.M) (hl : x'.loc = x.loc ∧ x'.cap = x.cap ∧ x'.M0 = x.M0) : ∀ {l : List AV} {vs : List Value}, RepL x l vs → ∀ (j : Nat), (∀ (i : Nat) (n : Bool) (ks : List Kd) (rows : Rows) (r : Right) (v : Value), l[i]? = some (.sl n ks rows r) → vs[i]? = some v → r.held rows = true → x'.tk (j + i) = some (v, ks.length)) → RepL x' (retokL j l) vs
  | _, _, .nil, j, _ => .nil
  | _, _, .cons a v l vs ha h, j, hk => by
    simp only [retokL]
    refine .cons _ _ _ _ ?_ (retokL_rep hM hl h (j + 1) fun i n ks rows r u h1 h2 h3 => by have := hk (i + 1) n ks rows r u (by simpa using h1) (by simpa using h2) h3; rw [← this]; congr 1; omega)
    cases ha with
    | sl n kd rows r _ hd hr =>
      simp only [AV.retok]
      refine .sl n kd rows _ v (by rw [hM]; exact hd) ?_
      cases r with
      | no => trivial
      | ex =>
        simp only [Right.retok]
        cases he : rows.isEmpty with
        | true => exact hk 0 n kd rows .ex v rfl rfl he
        | false => trivial
      | tok k => exact hk 0 n kd rows (.tok k) v rfl rfl rfl
      | old => show RepD x'.M0 _ v; rw [hl.2.2]; exact hr
    | dv d _ h1 => exact Rep.bare hM hl (.dv d v h1)
    | agg cs us h1 => exact Rep.bare hM hl (.agg cs us h1)
    | tup cs us h1 => exact Rep.bare hM hl (.tup cs us h1)
    | pl k off b h1 => exact Rep.bare hM hl (.pl k off b h1)
    | pv kd row off b o h1 h2 => exact Rep.bare hM hl (.pv kd row off b o h1 h2)
    | fn f cs us h1 => exact Rep.bare hM hl (.fn f cs us h1)
    | ifc t a u h1 => exact Rep.bare hM hl (.ifc t a u h1)
    | ms k kd off n c b o c' h1 g1 g2 g3 => exact Rep.bare hM hl (.ms k kd off n c b o c' h1 g1 g2 g3)
    | pa k kd i j b h1 => exact Rep.bare hM hl (.pa k kd i j b h1)
    | junk _ => exact Rep.bare hM hl (.junk v)

theorem retok_sound {t : List AV} {m : Mem} {x : X} {w : World} {a : Act} (hs : StOk e x w { t := t, m := m } a) (hn : nodup (topToks t ++ memToks m) = true) (hlen : t.length ≤ 1000) (hshort : shortM m = true) :
    ∃ x', StOk e x' w { t := retokL 0 t, m := retokM m } a := by
  obtain ⟨hI, hT, hdef⟩ := hs
  simp only at hI hT
  obtain ⟨hn1, hn2, hn3⟩ := List.nodup_append.1 (nodup_iff hn)
  let x' : X := { x with tk := fun j => if j < 1000 then heldT t a.tmps j else if 20000 ≤ j then heldM m x.loc w (j - 20000) else none }
  -- where a token of x' comes from
  have hfromT : ∀ j v sz, heldT t a.tmps j = some (v, sz) → ∃ n ks rows r, t[j]? = some (.sl n ks rows r) ∧ Rep x (.sl n ks rows r) v ∧ sz = ks.length ∧ r.held rows = true := by
    intro j v sz h
    unfold heldT at h
    split at h
    · rename_i n ks rows hj
      obtain ⟨u, hu, hr⟩ := hT.get hj
      have : a.tmps.getD j undef = u := by rw [Array.getElem?_toList] at hu; rw [Array.getD_eq_getD_getElem?, hu]; rfl
      rw [this] at h
      split at h
      · rename_i he
        cases h
        exact ⟨n, ks, rows, _, hj, hr, rfl, he⟩
      · cases h
    · rename_i n ks rows k hj
      obtain ⟨u, hu, hr⟩ := hT.get hj
      have : a.tmps.getD j undef = u := by rw [Array.getElem?_toList] at hu; rw [Array.getD_eq_getD_getElem?, hu]; rfl
      rw [this] at h
      cases h
      exact ⟨n, ks, rows, _, hj, hr, rfl, rfl⟩
    · cases h
  have hfromM : ∀ j v sz, heldM m x.loc w j = some (v, sz) → ∃ cs n ks rows r, lookup m (j / 64) = some cs ∧ cs[j % 64]? = some (.sl n ks rows r) ∧ Rep x (.sl n ks rows r) v ∧ sz = ks.length ∧ r.held rows = true := by
    intro j v sz h
    unfold heldM at h
    split at h
    · rename_i cs b hcs hb
      obtain ⟨b', ty, arr, h1, _, h3, h4, _⟩ := hI.slot _ cs hcs
      rw [hb] at h1
      obtain rfl := Option.some.inj h1
      split at h
      · rename_i n ks rows v' hc hv
        obtain ⟨u, hu, hr⟩ := h4.get hc
        have : w.cell? ⟨b, j % 64, none⟩ = some u := by rw [Array.getElem?_toList] at hu; simp [World.cell?, h3, hu]
        rw [this] at hv
        cases hv
        split at h
        · rename_i he
          cases h
          exact ⟨cs, n, ks, rows, _, hcs, hc, hr, rfl, he⟩
        · cases h
      · rename_i n ks rows k v' hc hv
        obtain ⟨u, hu, hr⟩ := h4.get hc
        have : w.cell? ⟨b, j % 64, none⟩ = some u := by rw [Array.getElem?_toList] at hu; simp [World.cell?, h3, hu]
        rw [this] at hv
        cases hv; cases h
        exact ⟨cs, n, ks, rows, _, hcs, hc, hr, rfl, rfl⟩
      · cases h
    · cases h
  -- one origin: a right, held at one place
  have horig : ∀ j v sz, x'.tk j = some (v, sz) → ∃ r d, (r = .ex → ∀ a n c, v = .slice (some a) n c → ¬ 0 < c) ∧ (r ≠ .no ∧ r ≠ .old) ∧ RtOk x r d v sz ∧ ((j < 1000 ∧ ∃ b, t[j]? = some b ∧ ∀ k, r = .tok k → k ∈ b.topTok) ∨ (20000 ≤ j ∧ ∃ cs b, lookup m ((j - 20000) / 64) = some cs ∧ cs[(j - 20000) % 64]? = some b ∧ ∀ k, r = .tok k → k ∈ b.topTok)) := by
    intro j v sz h
    simp only [x'] at h
    split at h
    · rename_i hj
      obtain ⟨n, ks, rows, r, h1, h2, rfl, h4⟩ := hfromT j v sz h
      cases h2 with
      | sl _ _ _ _ _ hd hr => exact ⟨r, _, ex_room hd hr h4, held_ne h4, hr, .inl ⟨hj, _, h1, fun k hk => by subst hk; simp [AV.topTok, Right.toks]⟩⟩
    · split at h
      · rename_i hj
        obtain ⟨cs, n, ks, rows, r, h0, h1, h2, rfl, h4⟩ := hfromM _ v sz h
        cases h2 with
        | sl _ _ _ _ _ hd hr => exact ⟨r, _, ex_room hd hr h4, held_ne h4, hr, .inr ⟨hj, cs, _, h0, h1, fun k hk => by subst hk; simp [AV.topTok, Right.toks]⟩⟩
      · cases h
  have hkeep : ∀ {l : List AV} {vs : List Value} (j0 : Nat), RepL x l vs → (∀ (i : Nat) (n : Bool) (ks : List Kd) (rows : Rows) (r : Right) (v : Value), l[i]? = some (.sl n ks rows r) → vs[i]? = some v → r.held rows = true → x'.tk (j0 + i) = some (v, ks.length)) → RepL x' (retokL j0 l) vs :=
    fun j0 h hk => retokL_rep (x := x) (x' := x') rfl ⟨rfl, rfl, rfl⟩ h j0 hk
  have hI' : Inv e x' w (retokM m) := by
    refine ⟨hI.sub, ?_, ?_, ?_, ?_, ?_, hI.os, hI.tape, hI.output, hI.size, hI.old, hI.mono, hI.new, hI.ext, hI.low, hI.more.step (fun k b cs hk hb => by
      rw [lookup_retokM] at hk
      obtain ⟨c0, h0, _⟩ := Option.map_eq_some_iff.1 hk
      exact ⟨c0, h0, hb, rfl⟩) (fun b arr ty hb => ⟨arr, ty, hb, Nat.le_refl _⟩) (fun _ _ => rfl) rfl (Nat.le_refl _), hI.glob⟩
    · intro k cs hk
      rw [lookup_retokM] at hk
      obtain ⟨c0, h0, rfl⟩ := Option.map_eq_some_iff.1 hk
      obtain ⟨b, ty, arr, h1, h2, h3, h4, h5⟩ := hI.slot k c0 h0
      refine ⟨b, ty, arr, h1, h2, h3, ?_, h5⟩
      rcases h4 with h4 | ⟨kd, rows, rfl, h4⟩
      case inr => exact .inr ⟨kd, rows, by simp [retokL, AV.retok, AV.bare], h4⟩
      refine .inl (hkeep _ h4 ?_)
      intro i n ks rows r v hi hv hr
      have hlt : i < 64 := by
        have h6 := shortM_get hshort h0
        have h7 : i < c0.length := (List.getElem?_eq_some_iff.1 hi).1
        omega
      simp only [x']
      rw [if_neg (by omega), if_pos (by omega)]
      have e1 : 20000 + 64 * k + i - 20000 = 64 * k + i := by omega
      rw [e1]
      have e2 : (64 * k + i) / 64 = k := by omega
      have e3 : (64 * k + i) % 64 = i := by omega
      have hcell : w.cell? ⟨b, i, none⟩ = some v := by rw [Array.getElem?_toList] at hv; simp [World.cell?, h3, hv]
      unfold heldM
      rw [e2, e3, h0, h1]
      simp only [hi, hcell]
      cases r with
      | no => cases hr
      | old => cases hr
      | ex => simp only [Right.held] at hr; simp only [hr]
      | tok k => rfl
    · intro k k' cs cs' b hk hk' hb hb'
      rw [lookup_retokM] at hk hk'
      obtain ⟨c0, h0, _⟩ := Option.map_eq_some_iff.1 hk
      obtain ⟨c1, h1, _⟩ := Option.map_eq_some_iff.1 hk'
      exact hI.inj k k' c0 c1 b h0 h1 hb hb'
    · intro j v sz hj ad n c hv hlt
      obtain ⟨r, d, hr0, hr1, hr2, _⟩ := horig j v sz hj
      cases r with
      | no => exact absurd rfl hr1.1
      | old => exact absurd rfl hr1.2
      | ex => exact absurd hlt (hr0 rfl ad n c hv)
      | tok k => exact hI.tok k v sz hr2 ad n c hv hlt
    · intro j ad n c sz q cs hj hlt hq
      rw [lookup_retokM] at hq
      obtain ⟨c0, h0, _⟩ := Option.map_eq_some_iff.1 hq
      obtain ⟨r, d, hr0, hr1, hr2, _⟩ := horig j _ sz hj
      cases r with
      | no => exact absurd rfl hr1.1
      | old => exact absurd rfl hr1.2
      | ex => exact absurd hlt (hr0 rfl ad n c rfl)
      | tok k => exact hI.tokslot k ad n c sz q c0 hr2 hlt h0
    · intro j j' ad n c sz ad' n' c' sz' hj hj' hlt hlt' hab
      obtain ⟨r, d, hr0, hr1, hr2, hp⟩ := horig j _ sz hj
      obtain ⟨r', d', hr0', hr1', hr2', hp'⟩ := horig j' _ sz' hj'
      cases r with
      | no => exact absurd rfl hr1.1
      | old => exact absurd rfl hr1.2
      | ex => exact absurd hlt (hr0 rfl ad n c rfl)
      | tok k =>
        cases r' with
        | no => exact absurd rfl hr1'.1
        | old => exact absurd rfl hr1'.2
        | ex => exact absurd hlt' (hr0' rfl ad' n' c' rfl)
        | tok k' =>
          have hkk := hI.toktok k k' ad n c sz ad' n' c' sz' hr2 hr2' hlt hlt' hab
          subst hkk
          rcases hp with ⟨g1, b1, g2, g3⟩ | ⟨g1, cs1, b1, g2, g3, g4⟩
          · rcases hp' with ⟨g1', b1', g2', g3'⟩ | ⟨g1', cs1', b1', g2', g3', g4'⟩
            · exact top_unique hn1 g2 g2' (g3 k rfl) (g3' k rfl)
            · exact absurd rfl (hn3 k (top_mem g2 (g3 k rfl)) k (memTok_mem g2' g3' (g4' k rfl)))
          · rcases hp' with ⟨g1', b1', g2', g3'⟩ | ⟨g1', cs1', b1', g2', g3', g4'⟩
            · exact absurd rfl (hn3 k (top_mem g2' (g3' k rfl)) k (memTok_mem g2 g3 (g4 k rfl)))
            · obtain ⟨e1, e2⟩ := mem_unique hn2 g2 g2' g3 g3' (g4 k rfl) (g4' k rfl)
              omega
  refine ⟨x', hI', hkeep 0 hT ?_, hdef⟩
  intro i n ks rows r v hi hv hr
  have hlt : i < t.length := (List.getElem?_eq_some_iff.1 hi).1
  simp only [x', Nat.zero_add]
  rw [if_pos (by omega)]
  have : a.tmps.getD i undef = v := by rw [Array.getElem?_toList] at hv; rw [Array.getD_eq_getD_getElem?, hv]; rfl
  unfold heldT
  rw [hi, this]
  cases r with
  | no => cases hr
  | old => cases hr
  | ex => simp only [Right.held] at hr; simp only [hr]
  | tok k => rfl

theorem norm_sound {tl ml : List Nat} {s s' : St} {x : X} {w : World} {a : Act} (hs : StOk e x w s a) (h : norm tl ml s = some s') : ∃ x', StOk e x' w s' a := by
  unfold norm at h
  simp only at h
  split at h
  · rename_i hc
    cases h
    simp only [Bool.and_eq_true, Nat.ble_eq] at hc
    refine retok_sound (x := x) ⟨?_, ?_, hs.defers⟩ hc.1.1 hc.1.2 hc.2
    · refine hs.inv.forget (p := deadM ml s.m) (ks := []) (Ext.refl _ _ _) rfl (fun _ _ h => h) (fun _ _ => rfl) (fun _ _ => rfl) ?_ hs.inv.tok hs.inv.tokslot hs.inv.toktok
      intro k cs hk
      rw [lookup_scrubM, lookup_keepM] at hk
      obtain ⟨c0, h0, h1⟩ := Option.map_eq_some_iff.1 hk
      split at h0
      · rename_i hm
        exact ⟨deadM_mem ml s.m k hm, c0, h0, h1.symm⟩
      · cases h0
    · exact (hs.tmps.keep tl 0).scrub (Ext.refl _ _ _)
  · cases h

theorem loop_sound {tl ml : List Nat} {q : Nat} {c : Code} {body : (Ex → St → Option R) → St → Option R}
    (hbody : ∀ (K : Ex → St → Option R) (Q : Exit → Act → World → Prop), KOk e K res Q → ∀ s x w a, StOk e x w s a → body K s = some res → c.wp e.P Q a w)
    {K : Ex → St → Option R} {Q : Exit → Act → World → Prop} (hK : KOk e K res Q) (n : Nat) {s : St} {x : X} {w : World} {a : Act} (hs : StOk e x w s a) (h : loopE q tl ml body n K s = some res) : (Code.loop c).wp e.P Q a w := by
  refine wp_loop_ghost (fun n a w => ∃ s x, StOk e x w s a ∧ loopE q tl ml body n K s = some res) n ⟨s, x, hs, h⟩ ?_
  rintro n a w ⟨s, x, hs, h⟩
  cases n with
  | zero => simp [loopE] at h
  | succ n =>
    simp only [loopE] at h
    refine hbody _ _ ?_ s x w a hs h
    intro ex E s' x' w' a' hk hs' hex
    cases hex with
    | normal =>
      simp only at hk
      split at hk
      · rename_i s'' hn
        obtain ⟨x'', hs''⟩ := norm_sound hs' hn
        exact ⟨n, Nat.lt_succ_self n, s'', x'', hs'', hk⟩
      · cases hk
    | exit id => exact hK _ _ s' x' w' a' hk hs' (.exit id)
    | ret => exact hK _ _ s' x' w' a' hk hs' .ret
    | pan v u hr => exact hK _ _ s' x' w' a' hk hs' (.pan v u hr)

theorem evB {x : X} {w : World} {s : St} {a : Act} (hs : StOk e x w s a) {c : Operand} {b : Bool} (h : evT e.P s.t 0 c = some (.dv (.val (.bool b)))) : a.eval c = .bool b := Rep.val (evT_rep hs.tmps h)

/-- CODE: what den answers, the machine does. -/
theorem den_sound {Φ : Orc} (hΦ : OSound e.P Φ)
    (hdraw : ∀ (id : Nat) (ops : Array Oper) (K : Ex → St → Option R) (Q : Exit → Act → World → Prop), KOk e K res Q → ∀ s x w a, StOk e x w s a → regA e.P Φ (fun v s => K (.pan v) s) ops.toList s (fun s => K .normal s) = some res → (Code.region id ops true).wp e.P Q a w)
    (lv : Live) (hlv : e.L = [] ∨ ∀ id, prep lv id = []) (n : Nat) : ∀ (c : Code) (K : Ex → St → Option R) (Q : Exit → Act → World → Prop), KOk e K res Q → ∀ s x w a, StOk e x w s a → den e.P Φ lv n c K s = some res → c.wp e.P Q a w := by
  intro c
  induction c with
  | skip => intro K Q hK s x w a hs h; exact Go.wp_skip (hK _ _ s x w a h hs .normal)
  | region id ops draw =>
    intro K Q hK s x w a hs h
    simp only [den, St.force_eq] at h
    obtain ⟨x, s, hs, h⟩ := pre_sound (hlv.elim .inl fun h => .inr (h id)) hs h
    cases draw with
    | false => exact reg_code hΦ hlv hK hs h
    | true =>
      exact hdraw id ops K Q hK s x w a hs h
  | seq c d ihc ihd =>
    intro K Q hK s x w a hs h
    simp only [den] at h
    refine Go.wp_seq (ihc _ _ ?_ s x w a hs h)
    intro ex E s' x' w' a' hk hs' hex
    cases hex with
    | normal => exact ihd K Q hK s' x' w' a' hs' hk
    | exit id => exact hK _ _ s' x' w' a' hk hs' (.exit id)
    | ret => exact hK _ _ s' x' w' a' hk hs' .ret
    | pan v u hr => exact hK _ _ s' x' w' a' hk hs' (.pan v u hr)
  | cond c d f ihd ihf =>
    intro K Q hK s x w a hs h
    simp only [den] at h
    split at h
    · rename_i b hb
      have hc := evB hs hb
      cases b with
      | true => exact wp_cond_true hc (ihd K Q hK s x w a hs h)
      | false => exact wp_cond_false hc (ihf K Q hK s x w a hs h)
    · cases h
  | block id c ih =>
    intro K Q hK s x w a hs h
    simp only [den] at h
    refine wp_block (ih _ _ ?_ s x w a hs h)
    intro ex E s' x' w' a' hk hs' hex
    cases hex with
    | normal => exact hK _ _ s' x' w' a' hk hs' .normal
    | exit j =>
      simp only [Exit.inBlock]
      simp only [beq_eq] at hk
      by_cases hj : j = id
      · rw [if_pos hj] at hk ⊢; exact hK _ _ s' x' w' a' hk hs' .normal
      · rw [if_neg hj] at hk ⊢; exact hK _ _ s' x' w' a' hk hs' (.exit j)
    | ret => exact hK _ _ s' x' w' a' hk hs' .ret
    | pan v u hr => exact hK _ _ s' x' w' a' hk hs' (.pan v u hr)
  | loop c ih =>
    intro K Q hK s x w a hs h
    simp only [den] at h
    split at h
    · rename_i tl ml hlv
      split at h
      · rename_i s' hn
        obtain ⟨x', hs'⟩ := norm_sound hs hn
        exact loop_sound (fun K Q hK s x w a hs h => ih K Q hK s x w a hs h) hK n hs' h
      · cases h
    · cases h
  | exit id => intro K Q hK s x w a hs h; exact wp_exit (hK _ _ s x w a h hs (.exit id))
  | ret =>
    intro K Q hK s x w a hs h
    simp only [den] at h
    obtain ⟨x, s, hs, h⟩ := pre_sound (hlv.elim .inl fun h => .inr (h 999998)) hs h
    exact wp_ret (hK _ _ s x w a h hs .ret)
  | rangeFunc => intro K Q hK s x w a hs h; simp [den] at h
  | scope c ih =>
    intro K Q hK s x w a hs h
    simp only [den] at h
    refine wp_scope_straight (ih K _ ?_ s x w a hs h)
    intro ex E s' x' w' a' hk hs' hex
    have := hK _ _ s' x' w' a' hk hs' hex
    cases hex with
    | normal => exact this
    | exit j => exact this
    | ret => exact this
    | pan v u hr => exact this
  | label l => intro K Q hK s x w a hs h; exact Go.wp_label (hK _ _ s x w a h hs .normal)
  | goto => intro K Q hK s x w a hs h; simp [den] at h
  | refuse => intro K Q hK s x w a hs h; simp [den] at h
end Go.Den
