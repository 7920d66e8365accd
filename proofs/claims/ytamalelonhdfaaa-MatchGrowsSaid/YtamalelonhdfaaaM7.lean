import Derived.Test.YtamalelonhdfaaaM1
set_option linter.unusedVariables false
set_option linter.unusedSimpArgs false
set_option linter.unusedSectionVars false
/- What a literal tells begins with the bindings that were there, and holds the fact. -/
namespace Go.Den
theorem look_app : ∀ {v : ByteArray} {env x : Rows} {c : Cn}, look v env = some c → look v (env ++ x) = some c
  | v, [], x, c, h => by cases h
  | v, r :: l, x, c, h => by
    rw [List.cons_append]
    unfold look at h ⊢
    cases hr : Row.S r 0 == v with
    | true => rw [hr] at h; exact h
    | false => rw [hr] at h; exact look_app h
theorem look_none_app : ∀ {v : ByteArray} {env : Rows} {c : Cn}, look v env = none → look v (env ++ [bindRow v c]) = some c
  | v, [], c, h => by
    show (bif Row.S (bindRow v c) 0 == v then some (Row.B (bindRow v c) 1, Row.I (bindRow v c) 2, Row.S (bindRow v c) 3) else none) = some c
    have : Row.S (bindRow v c) 0 = v := rfl
    rw [this, beq_self_eq_true]; rfl
  | v, r :: l, c, h => by
    rw [List.cons_append]
    unfold look at h ⊢
    cases hr : Row.S r 0 == v with
    | true => rw [hr] at h; cases h
    | false => rw [hr] at h; exact look_none_app h
theorem value_app {t : Tm} {env x : Rows} {c : Cn} (h : value t env = some c) : value t (env ++ x) = some c := by
  unfold value at h ⊢
  cases hn : nilT t with
  | true => rw [hn] at h; cases h
  | false =>
    rw [hn] at h
    simp only [cond_false] at h ⊢
    cases hv : t.1 == noS with
    | true => rw [hv] at h; exact h
    | false => rw [hv] at h; exact look_app h
theorem unify_some {t : Tm} {c : Cn} {env e : Rows} (h : unify t c env = some e) : (∃ x, e = env ++ x) ∧ value t e = some c := by
  unfold unify at h
  cases hv : value t env with
  | some d =>
    rw [hv] at h
    simp only at h
    cases hs : sameC d c with
    | true =>
      rw [hs] at h
      cases h
      obtain rfl := sameC_eq.1 hs
      exact ⟨⟨[], (List.append_nil _).symm⟩, hv⟩
    | false => rw [hs] at h; cases h
  | none =>
    rw [hv] at h
    simp only at h
    cases hn : nilT t with
    | true => rw [hn] at h; cases h
    | false =>
      rw [hn] at h
      cases h
      refine ⟨⟨_, rfl⟩, ?_⟩
      have hns := value_none hv hn
      unfold value at hv ⊢
      rw [hn, hns] at hv
      simp only [hn, hns, cond_false] at hv ⊢
      exact look_none_app hv
theorem unify_has {t : Tm} {c d : Cn} {a : Rows} (h : value t a = some c) : unify t d a = bif sameC c d then some a else none := by
  unfold unify; rw [h]
/-- the values of terms -/
def Vals (a : Rows) : Rows → Rows → Prop
  | [], [] => True
  | t :: l, c :: m => value (tmAt t 0) a = some (cnAt c) ∧ Vals a l m
  | _, _ => False
theorem Vals.app {a x : Rows} : ∀ {l m : Rows}, Vals a l m → Vals (a ++ x) l m
  | [], [], _ => trivial
  | t :: l, c :: m, h => ⟨value_app h.1, Vals.app h.2⟩
  | [], _ :: _, h => h.elim
  | _ :: _, [], h => h.elim
theorem unifs_some : ∀ {l m env e : Rows}, l.length = m.length → unifs l m env = some e → (∃ x, e = env ++ x) ∧ Vals e l m
  | [], [], env, e, _, h => by cases h; exact ⟨⟨[], (List.append_nil _).symm⟩, trivial⟩
  | t :: l, c :: m, env, e, hl, h => by
    unfold unifs at h
    split at h
    · rename_i e1 h1
      obtain ⟨⟨x, rfl⟩, hv⟩ := unify_some h1
      obtain ⟨⟨y, rfl⟩, hvs⟩ := unifs_some (by simpa using hl) h
      exact ⟨⟨x ++ y, List.append_assoc _ _ _⟩, value_app hv, hvs⟩
    · cases h
  | [], _ :: _, env, e, hl, h => by cases hl
  | _ :: _, [], env, e, hl, h => by cases hl
theorem unifs_has {a : Rows} : ∀ {l m m' : Rows}, Vals a l m → l.length = m'.length → (unifs l m' a = some a ∧ m.map cnAt = m'.map cnAt) ∨ (unifs l m' a = none ∧ ¬ m.map cnAt = m'.map cnAt)
  | [], [], [], _, _ => .inl ⟨rfl, rfl⟩
  | t :: l, c :: m, c' :: m', h, hl => by
    unfold unifs
    rw [unify_has h.1]
    cases hs : sameC (cnAt c) (cnAt c') with
    | true =>
      have := sameC_eq.1 hs
      simp only [cond_true]
      rcases unifs_has (m' := m') h.2 (by simpa using hl) with ⟨h1, h2⟩ | ⟨h1, h2⟩
      · exact .inl ⟨h1, by simp [this, h2]⟩
      · refine .inr ⟨h1, fun h3 => h2 ?_⟩
        simp only [List.map_cons, List.cons.injEq] at h3
        exact h3.2
    | false =>
      refine .inr ⟨rfl, fun h3 => ?_⟩
      simp only [List.map_cons, List.cons.injEq] at h3
      rw [sameC_eq.2 h3.1] at hs
      cases hs
  | [], _ :: _, _, h, _ => h.elim
  | _ :: _, [], _, h, _ => h.elim
  | [], [], _ :: _, _, hl => by cases hl
  | _ :: _, _ :: _, [], _, hl => by cases hl
theorem txt_inj {a b : ByteArray} : sameC (txt a) (txt b) = (a == b) := by
  unfold sameC txt
  simp
structure Held (home by_ at_ : Tm) (pred : ByteArray) (args : Rows) (f : Fc) (a : Rows) : Prop where
  pred : pred = f.2.2.1
  len : args.length = f.2.2.2.length
  at_ : value (orT at_ home) a = some (txt f.1)
  by_ : (nilT by_ = true ∧ f.2.1 = f.1) ∨ (nilT by_ = false ∧ value by_ a = some (txt f.2.1))
  args : Vals a args f.2.2.2
theorem lit_held {home by_ at_ : Tm} {pred : ByteArray} {args : Rows} {f : Fc} {env e : Rows} (h : lit home by_ at_ pred args f.1 f.2.1 f.2.2.1 f.2.2.2 env = some e) : (∃ x, e = env ++ x) ∧ Held home by_ at_ pred args f e := by
  unfold lit at h
  cases h1 : !(pred == f.2.2.1) with
  | true => rw [h1] at h; cases h
  | false =>
  rw [h1] at h
  simp only [cond_false] at h
  cases h2 : (args.length : Int) != (f.2.2.2.length : Int) with
  | true => rw [h2] at h; cases h
  | false =>
  rw [h2] at h
  simp only [cond_false] at h
  have hlen : args.length = f.2.2.2.length := by
    have h : (args.length : Int) = (f.2.2.2.length : Int) := by simpa using h2
    omega
  have hp : pred = f.2.2.1 := by simpa using h1
  split at h
  · cases h
  · rename_i e1 g1
    split at h
    · cases h
    · rename_i e2 g2
      obtain ⟨⟨x, rfl⟩, hv1⟩ := unify_some g1
      obtain ⟨⟨z, rfl⟩, hvs⟩ := unifs_some hlen h
      unfold saidBy at g2
      cases hn : nilT by_ with
      | true =>
        rw [hn] at g2
        simp only [cond_true] at g2
        cases hb : f.2.1 == f.1 with
        | true =>
          rw [hb] at g2
          cases g2
          exact ⟨⟨x ++ z, List.append_assoc _ _ _⟩, hp, hlen, value_app hv1, .inl ⟨hn, eq_of_beq hb⟩, hvs⟩
        | false => rw [hb] at g2; cases g2
      | false =>
        rw [hn] at g2
        obtain ⟨⟨y, rfl⟩, hv2⟩ := unify_some g2
        exact ⟨⟨x ++ (y ++ z), by simp [List.append_assoc]⟩, hp, hlen, by rw [List.append_assoc]; exact value_app hv1, .inr ⟨hn, value_app hv2⟩, hvs⟩
theorem held_lit {home by_ at_ : Tm} {pred : ByteArray} {args : Rows} {f g : Fc} {a : Rows} (h : Held home by_ at_ pred args f a) :
    (lit home by_ at_ pred args g.1 g.2.1 g.2.2.1 g.2.2.2 a = some a ∧ sameF f g) ∨ (lit home by_ at_ pred args g.1 g.2.1 g.2.2.1 g.2.2.2 a = none ∧ ¬ sameF f g) := by
  obtain ⟨fa, fb, fp, fl⟩ := f
  obtain ⟨ga, gb, gp, gl⟩ := g
  unfold lit sameF
  obtain ⟨hp, hl, ha, hb, hv⟩ := h
  simp only at hp hl ha hb hv ⊢
  subst hp
  by_cases h1 : pred = gp
  · subst h1
    simp only [beq_self_eq_true, Bool.not_true, cond_false, true_and]
    cases h2 : (args.length : Int) != (gl.length : Int) with
    | true =>
      have hne : ¬ args.length = gl.length := by
        have h : ¬ (args.length : Int) = (gl.length : Int) := by simpa using h2
        omega
      refine .inr ⟨rfl, fun ⟨_, _, h3⟩ => hne ?_⟩
      have := congrArg List.length h3
      simp only [List.length_map] at this
      omega
    | false =>
      have hlen : args.length = gl.length := by
        have h : (args.length : Int) = (gl.length : Int) := by simpa using h2
        omega
      simp only [cond_false, unify_has ha, txt_inj]
      cases e1 : fa == ga with
      | false =>
        refine .inr ⟨rfl, fun ⟨h3, _⟩ => ?_⟩
        subst h3; simp at e1
      | true =>
        have e1' := eq_of_beq e1
        subst e1'
        simp only [cond_true, true_and]
        unfold saidBy
        rcases hb with ⟨hn, hb⟩ | ⟨hn, hb⟩
        · simp only [hn, cond_true]
          subst hb
          cases e2 : gb == fb with
          | false =>
            refine .inr ⟨rfl, fun ⟨h3, _⟩ => ?_⟩
            subst h3; simp at e2
          | true =>
            have e2' := eq_of_beq e2
            subst e2'
            simp only [cond_true, true_and]
            exact unifs_has hv hlen
        · simp only [hn, cond_false, unify_has hb, txt_inj]
          cases e2 : fb == gb with
          | false =>
            refine .inr ⟨rfl, fun ⟨h3, _⟩ => ?_⟩
            subst h3; simp at e2
          | true =>
            have e2' := eq_of_beq e2
            subst e2'
            simp only [cond_true, true_and]
            exact unifs_has hv hlen
  · have hb' : (pred == gp) = false := by simpa using h1
    simp only [hb', Bool.not_false, cond_true]
    exact .inr ⟨by first | rfl | trivial, fun ⟨_, _, h3, _⟩ => h1 h3⟩
end Go.Den
