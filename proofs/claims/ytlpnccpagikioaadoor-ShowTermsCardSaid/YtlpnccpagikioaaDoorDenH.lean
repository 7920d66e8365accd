import Derived.Test.YtlpnccpagikioaaDoorDen8
set_option linter.unusedVariables false
set_option linter.unusedSimpArgs false
set_option linter.unusedSectionVars false
/- Rights at their holders. -/
namespace Go.Den
mutual
theorem Rep.bare {x x' : X} (hM : x'.M = x.M) (hl : x'.loc = x.loc ∧ x'.cap = x.cap ∧ x'.M0 = x.M0) : ∀ {a v}, Rep x a v → Rep x' a.bare v
  | _, _, .dv d v h => by unfold AV.bare; exact .dv d v (by rw [hM]; exact h)
  | _, _, .sl n kd rows r v h hr => by unfold AV.bare; exact .sl n kd rows _ v (by rw [hM]; exact h) trivial
  | _, _, .agg cs vs h => by unfold AV.bare; exact .agg _ vs (RepL.bare hM hl h)
  | _, _, .tup cs vs h => by unfold AV.bare; exact .tup _ vs (RepL.bare hM hl h)
  | _, _, .pl k off b h => by unfold AV.bare; exact .pl k off b (by rw [hl.1]; exact h)
  | _, _, .pv kd row off b o h1 h2 => by unfold AV.bare; exact .pv kd row off b o h1 (by rw [hM]; exact h2)
  | _, _, .fn f cs vs h => by unfold AV.bare; exact .fn f _ vs (RepL.bare hM hl h)
  | _, _, .ifc t a v h => by unfold AV.bare; exact .ifc t _ v (Rep.bare hM hl h)
  | _, _, .ms k kd off n c b o c' h g1 g2 g3 => by unfold AV.bare; exact .ms k kd off n c b o c' (by rw [hl.1]; exact h) g1 g2 (by rw [hl.2.1]; exact g3)
  | _, _, .pa k kd i j b h => by unfold AV.bare; exact .pa k kd i j b (by rw [hl.1]; exact h)
  | _, _, .junk v => by unfold AV.bare; exact .junk v
theorem RepL.bare {x x' : X} (hM : x'.M = x.M) (hl : x'.loc = x.loc ∧ x'.cap = x.cap ∧ x'.M0 = x.M0) : ∀ {l vs}, RepL x l vs → RepL x' (AV.bareL l) vs
  | _, _, .nil => by unfold AV.bareL; exact .nil
  | _, _, .cons a v l vs ha h => by unfold AV.bareL; exact .cons _ _ _ _ (Rep.bare hM hl ha) (RepL.bare hM hl h)
end

theorem Cont.bare {x x' : X} (hM : x'.M = x.M) (hl : x'.loc = x.loc ∧ x'.cap = x.cap ∧ x'.M0 = x.M0) {cs : List AV} {l : List Value} (hc : Cont x cs l) : Cont x' (AV.bareL cs) l := by
  rcases hc with hc | ⟨kd, rows, rfl, hc⟩
  · exact .inl (hc.bare hM hl)
  · exact .inr ⟨kd, rows, by simp [AV.bareL, AV.bare], by rw [hM]; exact hc⟩
/-- A cell that is a slice is none of an array's. -/
theorem Cont.get {x : X} {cs : List AV} {l : List Value} (hc : Cont x cs l) {i : Nat} {n : Bool} {ks : List Kd} {rows : Rows} {r : Right} (h : cs[i]? = some (.sl n ks rows r)) : ∃ v, l[i]? = some v ∧ Rep x (.sl n ks rows r) v := by
  rcases hc with hc | ⟨kd, rows', rfl, _⟩
  · exact hc.get h
  · cases i with
    | zero => simp at h
    | succ i => simp at h

theorem nodup_iff : ∀ {l : List Nat}, nodup l = true → l.Nodup
  | [], _ => List.nodup_nil
  | k :: l, h => by
    simp only [nodup, Bool.and_eq_true, Bool.not_eq_true'] at h
    exact List.nodup_cons.2 ⟨fun hm => by rw [mem_iff.2 hm] at h; exact absurd h.1 (by simp), nodup_iff h.2⟩

theorem top_mem : ∀ {t : List AV} {i : Nat} {a : AV} {k : Nat}, t[i]? = some a → k ∈ a.topTok → k ∈ topToks t
  | [], i, a, k, h, _ => by simp at h
  | b :: t, 0, a, k, h, hk => by simp at h; subst h; simp [topToks, hk]
  | b :: t, i + 1, a, k, h, hk => by simp at h; simp [topToks, top_mem h hk]
theorem top_unique : ∀ {t : List AV}, (topToks t).Nodup → ∀ {i j : Nat} {a b : AV} {k : Nat}, t[i]? = some a → t[j]? = some b → k ∈ a.topTok → k ∈ b.topTok → i = j
  | [], _, i, j, a, b, k, h, _, _, _ => by simp at h
  | c :: t, hn, i, j, a, b, k, hi, hj, ha, hb => by
    simp only [topToks] at hn
    obtain ⟨h1, h2, h3⟩ := List.nodup_append.1 hn
    cases i with
    | zero =>
      cases j with
      | zero => rfl
      | succ j => simp at hi hj; subst hi; exact absurd rfl (h3 k ha k (top_mem hj hb))
    | succ i =>
      cases j with
      | zero => simp at hi hj; subst hj; exact absurd rfl (h3 k hb k (top_mem hi ha))
      | succ j => simp at hi hj; rw [top_unique h2 hi hj ha hb]
/-- The token that stands for a right at its holder: what it tells. -/
def heldT (t : List AV) (tmps : Array Value) (j : Nat) : Option (Value × Nat) :=
  match t[j]? with
  | some (.sl _ ks rows .ex) => match rows.isEmpty with | true => some (tmps.getD j undef, ks.length) | false => none
  | some (.sl _ ks _ (.tok _)) => some (tmps.getD j undef, ks.length)
  | _ => none
/-- Is a right kept at a loop's head? -/
def Right.held (rows : Rows) : Right → Bool
  | .no => false
  | .ex => rows.isEmpty
  | .tok _ => true
  | .old => false
theorem held_ne {r : Right} {rows : Rows} (h : r.held rows = true) : r ≠ .no ∧ r ≠ .old := by cases r <;> simp [Right.held] at h ⊢
theorem ex_room {x : X} {n : Bool} {ks : List Kd} {rows : Rows} {r : Right} {v : Value} {sz : Nat} (hd : RepD x.M (.sl n ks rows) v) {d : DV} (hr : RtOk x r d v sz) (h : r.held rows = true) : r = .ex → ∀ a n c, v = .slice (some a) n c → ¬ 0 < c := by
  rintro rfl a n' c hv
  obtain ⟨a', q, hq⟩ := hr
  have hrows : rows = [] := by cases rows with | nil => rfl | cons => simp [Right.held] at h
  subst hrows
  rw [hv] at hq
  injection hq with _ h1 h2
  rcases hd.rows with ⟨_, _, h3⟩ | ⟨a2, c2, _, h3, _⟩
  · rw [hv] at h3; cases h3
  · rw [hv] at h3
    injection h3 with _ h4 h5
    simp only [List.length_nil] at h4
    omega
end Go.Den
