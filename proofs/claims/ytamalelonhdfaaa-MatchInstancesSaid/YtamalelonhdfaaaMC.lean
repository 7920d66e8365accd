import Derived.Test.YtamalelonhdfaaaMB
set_option linter.unusedVariables false
set_option linter.unusedSimpArgs false
set_option linter.unusedSectionVars false
/- By bindings that lie under others a rule's body can be matched, and the head comes out. -/
namespace Go.Den
open Go.Proofs
theorem look_append (v : ByteArray) : ∀ e x : Rows, look v (e ++ x) = match look v e with | some c => some c | none => look v x
  | [], x => rfl
  | r :: l, x => by
    rw [List.cons_append]
    show (bif Row.S r 0 == v then some (Row.B r 1, Row.I r 2, Row.S r 3) else look v (l ++ x)) = match (bif Row.S r 0 == v then some (Row.B r 1, Row.I r 2, Row.S r 3) else look v l) with | some c => some c | none => look v x
    cases Row.S r 0 == v with
    | true => rfl
    | false => exact look_append v l x
def Under (e a : Rows) : Prop := ∀ v c, look v e = some c → look v a = some c
def bnd (t : Tm) (e : Rows) : Prop := (t.1 == noS) = false → ∃ c, look t.1 e = some c
theorem bnd.app {t : Tm} {e x : Rows} (h : bnd t e) : bnd t (e ++ x) := fun hn => by
  obtain ⟨c, hc⟩ := h hn
  exact ⟨c, look_app hc⟩
theorem value_under {t : Tm} {e a : Rows} {c : Cn} (hu : Under e a) (h : value t e = some c) : value t a = some c := by
  unfold value at h ⊢
  cases hn : nilT t with
  | true => rw [hn] at h; cases h
  | false =>
    rw [hn] at h
    simp only [cond_false] at h ⊢
    cases hv : t.1 == noS with
    | true => rw [hv] at h; exact h
    | false => rw [hv] at h; exact hu _ _ h
theorem value_bnd {t : Tm} {e a : Rows} (hu : Under e a) (hb : bnd t e) : value t e = value t a := by
  unfold value
  cases hn : nilT t with
  | true => rfl
  | false =>
    cases hv : t.1 == noS with
    | true => rfl
    | false =>
      obtain ⟨c, hc⟩ := hb hv
      simp only [cond_false, hc, hu _ _ hc]
theorem sameC_self (c : Cn) : sameC c c = true := sameC_eq.2 rfl
structure Grow (e e' a : Rows) : Prop where
  under : Under e' a
  app : ∃ x, e' = e ++ x
theorem Grow.bnd {e e' a : Rows} {t : Tm} (h : Grow e e' a) (hb : bnd t e) : bnd t e' := by
  obtain ⟨x, rfl⟩ := h.app
  exact hb.app
theorem Grow.trans {e f g a : Rows} (h : Grow e f a) (k : Grow f g a) : Grow e g a := by
  obtain ⟨x, rfl⟩ := h.app
  obtain ⟨y, rfl⟩ := k.app
  exact ⟨k.under, x ++ y, by simp [List.append_assoc]⟩
theorem unify_under {t : Tm} {c : Cn} {e a : Rows} (hu : Under e a) (h : value t a = some c) : ∃ e', unify t c e = some e' ∧ Grow e e' a ∧ bnd t e' := by
  unfold unify
  cases hv : value t e with
  | some d =>
    have := value_under hu hv
    rw [h] at this
    cases this
    simp only [sameC_self, cond_true]
    refine ⟨e, rfl, ⟨hu, [], by simp⟩, fun hn => ?_⟩
    unfold value at hv
    rw [hn] at hv
    cases hx : nilT t with
    | true => rw [hx] at hv; cases hv
    | false => rw [hx] at hv; exact ⟨_, hv⟩
  | none =>
    cases hn : nilT t with
    | true => unfold value at h; rw [hn] at h; cases h
    | false =>
      have hns := value_none hv hn
      simp only [cond_false]
      have hl : look t.1 e = none := by
        unfold value at hv
        rw [hn, hns] at hv
        exact hv
      refine ⟨_, rfl, ⟨fun v d hd => ?_, [bindRow t.1 c], rfl⟩, fun _ => ⟨c, look_none_app hl⟩⟩
      rw [look_append] at hd
      cases h2 : look v e with
      | some d2 => rw [h2] at hd; cases hd; exact hu _ _ h2
      | none =>
        rw [h2] at hd
        simp only at hd
        have hd' : (bif t.1 == v then some c else none) = some d := hd
        cases h3 : t.1 == v with
        | false => rw [h3] at hd'; cases hd'
        | true =>
          rw [h3] at hd'
          cases hd'
          rw [← eq_of_beq h3]
          unfold value at h
          rw [hn, hns] at h
          exact h
theorem unifs_under {a : Rows} : ∀ {l m e : Rows}, Under e a → valuesS a l = some m → ∃ e', unifs l m e = some e' ∧ Grow e e' a ∧ ∀ t ∈ l, bnd (tmAt t 0) e'
  | [], m, e, hu, h => by
    cases h
    exact ⟨e, rfl, ⟨hu, [], by simp⟩, fun t ht => by cases ht⟩
  | t :: l, m, e, hu, h => by
    unfold valuesS at h
    split at h
    · rename_i c hc
      split at h
      · rename_i r hr
        cases h
        obtain ⟨e1, u1, x1, b1⟩ := unify_under hu hc
        obtain ⟨e2, u2, x2, b2⟩ := unifs_under x1.under hr
        refine ⟨e2, ?_, x1.trans x2, fun q hq => ?_⟩
        · unfold unifs
          have : cnAt (cRow c) = c := rfl
          rw [this, u1]
          exact u2
        · rcases List.mem_cons.1 hq with rfl | hq
          · exact x2.bnd b1
          · exact b2 q hq
      · cases h
    · cases h
theorem nameS_value {t : Tm} {a : Rows} {s : ByteArray} (h : nameS t a = some s) : value t a = some (txt s) := by
  unfold nameS at h
  split at h
  · rename_i c hc
    cases hs : sameC c (txt c.2.2) with
    | false => rw [hs] at h; cases h
    | true =>
      rw [hs] at h
      cases h
      rw [hc, sameC_eq.1 hs]
      rfl
  · cases h
def bndL (r : Row) (e : Rows) : Prop := bnd (tmAt r 0) e ∧ bnd (tmAt r 6) e ∧ ∀ t ∈ Row.R r 5, bnd (tmAt t 0) e
theorem Grow.bndL {e e' a : Rows} {r : Row} (h : Grow e e' a) (hb : bndL r e) : bndL r e' := ⟨h.bnd hb.1, h.bnd hb.2.1, fun t ht => h.bnd (hb.2.2 t ht)⟩
theorem bnd_nil {t : Tm} {e : Rows} (h : nilT t = true) : bnd t e := fun hn => by rw [nilT_noS h] at hn; cases hn
theorem lit_under {home : Tm} {a e : Rows} {r : Row} {f : Fc} (hu : Under e a) (h : bodyOne home a r = some f) : ∃ e', litAt home r (fRow f) e = some e' ∧ Grow e e' a ∧ bndL r e' := by
  unfold bodyOne at h
  split at h
  · cases h
  rename_i at_ hat
  split at h
  · cases h
  rename_i by_ hby
  split at h
  · cases h
  rename_i l hl
  cases h
  have hlen := valuesS_len hl
  show ∃ e', lit home (tmAt r 0) (tmAt r 6) (Row.S r 4) (Row.R r 5) at_ by_ (Row.S r 4) l e = some e' ∧ _
  unfold lit
  have hne : (((Row.R r 5).length : Int) != (l.length : Int)) = false := by rw [hlen]; simp
  simp only [beq_self_eq_true, Bool.not_true, cond_false, hne]
  obtain ⟨e1, u1, x1, b1⟩ := unify_under hu (nameS_value hat)
  simp only [u1]
  have b6 : bnd (tmAt r 6) e1 := by
    unfold orT at b1
    cases hn : nilT (tmAt r 6) with
    | true => exact bnd_nil hn
    | false => rw [hn] at b1; exact b1
  unfold saidBy
  cases hn : nilT (tmAt r 0) with
  | true =>
    have : by_ = at_ := by
      unfold orT at hby
      rw [hn] at hby
      have hby' : nameS (orT (tmAt r 6) home) a = some by_ := hby
      rw [hat] at hby'
      cases hby'
      rfl
    subst this
    simp only [cond_true, beq_self_eq_true]
    obtain ⟨e2, u2, x2, b2⟩ := unifs_under x1.under hl
    exact ⟨e2, u2, x1.trans x2, bnd_nil hn, x2.bnd b6, b2⟩
  | false =>
    have hby' : nameS (tmAt r 0) a = some by_ := by
      have h2 : orT (tmAt r 0) (orT (tmAt r 6) home) = tmAt r 0 := by
        rw [show orT (tmAt r 0) (orT (tmAt r 6) home) = bif nilT (tmAt r 0) then orT (tmAt r 6) home else tmAt r 0 from rfl, hn]; rfl
      rw [h2] at hby
      exact hby
    obtain ⟨e2, u2, x2, b2⟩ := unify_under x1.under (nameS_value hby')
    simp only [cond_false, u2]
    obtain ⟨e3, u3, x3, b3⟩ := unifs_under x2.under hl
    exact ⟨e3, u3, (x1.trans x2).trans x3, x3.bnd b2, x3.bnd (x2.bnd b6), b3⟩
theorem lits_under {home : Tm} {a : Rows} : ∀ {l m e : Rows}, Under e a → bodyS home a l = some m → ∃ e', litsS home l m e = some e' ∧ Grow e e' a ∧ ∀ r ∈ l, bndL r e'
  | [], m, e, hu, h => by
    cases h
    exact ⟨e, rfl, ⟨hu, [], by simp⟩, fun t ht => by cases ht⟩
  | r :: l, m, e, hu, h => by
    unfold bodyS at h
    split at h
    · cases h
    rename_i f hf
    split at h
    · cases h
    rename_i m' hm
    cases h
    obtain ⟨e1, u1, x1, b1⟩ := lit_under hu hf
    obtain ⟨e2, u2, x2, b2⟩ := lits_under x1.under hm
    refine ⟨e2, ?_, x1.trans x2, fun q hq => ?_⟩
    · unfold litsS
      rw [u1]
      exact u2
    · rcases List.mem_cons.1 hq with rfl | hq
      · exact x2.bndL b1
      · exact b2 q hq
theorem nameS_bnd {t : Tm} {e a : Rows} (hu : Under e a) (hb : bnd t e) : nameS t e = nameS t a := by
  unfold nameS
  rw [value_bnd hu hb]
theorem valuesS_bnd {e a : Rows} (hu : Under e a) : ∀ {l : Rows}, (∀ t ∈ l, bnd (tmAt t 0) e) → valuesS e l = valuesS a l
  | [], _ => rfl
  | t :: l, h => by
    unfold valuesS
    rw [value_bnd hu (h t List.mem_cons_self), valuesS_bnd hu (fun q hq => h q (List.mem_cons_of_mem _ hq))]
/-- where each variable of the head is one of the home's or the body's, the head follows -/
theorem follows_under {home to : Tm} {pred : ByteArray} {args body a m : Rows} {d : Fc} (hh : headS home to pred args a = some d) (hb : bodyS home a body = some m)
    (hv : ∀ e, bnd home e → (∀ r ∈ body, bndL r e) → bnd to e ∧ ∀ t ∈ args, bnd (tmAt t 0) e) : followsS home to pred args body d m = true := by
  have hd : nameS home a = some d.2.1 := by
    unfold headS at hh
    split at hh
    · cases hh
    · rename_i by_ hby
      split at hh
      · cases hh
      · split at hh
        · cases hh
        · cases hh; exact hby
  unfold followsS
  obtain ⟨e1, u1, x1, b1⟩ := unify_under (e := []) (fun v c h => by cases h) (nameS_value hd)
  rw [u1]
  have hlen := (bodyS_fine hb).1
  have hne : ((body.length : Int) != (m.length : Int)) = false := by rw [hlen]; simp
  simp only [hne, cond_false]
  obtain ⟨e2, u2, x2, b2⟩ := lits_under x1.under hb
  rw [u2]
  obtain ⟨h1, h2⟩ := hv e2 (x2.bnd b1) b2
  unfold endS
  have he : headS home to pred args e2 = headS home to pred args a := by
    unfold headS
    have ho : bnd (orT to home) e2 := by
      unfold orT
      cases nilT to with
      | true => exact x2.bnd b1
      | false => exact h1
    rw [nameS_bnd x2.under (x2.bnd b1), nameS_bnd x2.under ho, valuesS_bnd x2.under h2]
  simp only [he, hh, ordF_refl, beq_self_eq_true]
theorem lits_bad {home : Tm} : ∀ {l m e : Rows} {k : Nat} (h1 : k < l.length) (h2 : k < m.length), Row.S l[k] 4 ≠ Row.S m[k] 2 → litsS home l m e = none
  | r :: l, f :: m, e, 0, h1, h2, hne => by
    unfold litsS litAt lit
    have hb : (Row.S r 4 == Row.S f 2) = false := by
      have : Row.S r 4 ≠ Row.S f 2 := hne
      simpa using this
    simp only [hb, Bool.not_false, cond_true]
  | r :: l, f :: m, e, k + 1, h1, h2, hne => by
    unfold litsS
    split
    · exact lits_bad (k := k) (by simpa using h1) (by simpa using h2) hne
    · rfl
theorem follows_bad {home to : Tm} {pred : ByteArray} {args body m : Rows} {d : Fc} {k : Nat} (h1 : k < body.length) (h2 : k < m.length) (hne : Row.S body[k] 4 ≠ Row.S m[k] 2) : followsS home to pred args body d m = false := by
  unfold followsS
  split
  · rfl
  · cases (body.length : Int) != (m.length : Int) with
    | true => rfl
    | false => rw [lits_bad h1 h2 hne]; rfl
theorem follows_short {home to : Tm} {pred : ByteArray} {args body m : Rows} {d : Fc} (h : body.length ≠ m.length) : followsS home to pred args body d m = false := by
  unfold followsS
  split
  · rfl
  · have hne : ((body.length : Int) != (m.length : Int)) = true := by
      have : ¬ (body.length : Int) = (m.length : Int) := by omega
      simpa using this
    rw [hne]; rfl
theorem body_pred {home : Tm} {a : Rows} : ∀ {l m : Rows} {k : Nat} (h1 : k < l.length) (h2 : k < m.length), bodyS home a l = some m → Row.S m[k] 2 = Row.S l[k] 4
  | r :: l, m, k, h1, h2, h => by
    unfold bodyS at h
    split at h
    · cases h
    rename_i f hf
    split at h
    · cases h
    rename_i m' hm
    cases h
    cases k with
    | zero =>
      show f.2.2.1 = Row.S r 4
      unfold bodyOne at hf
      split at hf
      · cases hf
      · split at hf
        · cases hf
        · split at hf
          · cases hf
          · cases hf; rfl
    | succ k => exact body_pred (l := l) (m := m') (by simpa using h1) (by simpa using h2) hm
end Go.Den
/- Variables of a rule's body; is a rule open; copies. -/
namespace Go.Den
open Go.Proofs
def hasS (s : ByteArray) : Rows → Bool
  | [] => false
  | r :: l => bif Row.S r 0 == s then true else hasS s l
theorem hasS_mem {s : ByteArray} : ∀ {l : Rows}, hasS s l = true → ∃ r ∈ l, Row.S r 0 = s
  | [], h => by cases h
  | r :: l, h => by
    unfold hasS at h
    cases hr : Row.S r 0 == s with
    | true => exact ⟨r, List.mem_cons_self, eq_of_beq hr⟩
    | false =>
      rw [hr] at h
      obtain ⟨q, hq, e⟩ := hasS_mem h
      exact ⟨q, List.mem_cons_of_mem _ hq, e⟩
theorem ref10_Has_loop {n : Nat} {b0 : Bool} {r1 : Rows} {s2 : ByteArray} (hb : r1.length < big) : ∀ k q : Nat, q + k = r1.length → ∀ f, k < f → ref10_Has_l2 n b0 r1 s2 f (q : Int) = some (hasS s2 (r1.drop q), ()) := by
  intro k
  induction k with
  | zero =>
    intro q hq f hf
    obtain ⟨f, rfl⟩ : ∃ z, f = z + 1 := ⟨f - 1, by omega⟩
    rw [ref10_Has_s2, List.drop_eq_nil_of_le (by omega)]
    have h1 : ¬ ((q : Int) < (r1.length : Int)) := by omega
    simp only [h1, decide_false, cond_false, hasS]
  | succ k ih =>
    intro q hq f hf
    obtain ⟨f, rfl⟩ : ∃ z, f = z + 1 := ⟨f - 1, by omega⟩
    have hlt : q < r1.length := by omega
    have h1 : (q : Int) < (r1.length : Int) := by omega
    have h0 : (0 : Int) ≤ (q : Int) := by omega
    rw [ref10_Has_s2, List.drop_eq_getElem_cons hlt, wrap_succ (show q < big by omega)]
    simp only [h1, h0, decide_true, cond_true, if_true, Int.toNat_natCast, getD_get hlt, hasS, ih (q + 1) (by omega) f (by omega)]
    cases Row.S r1[q] 0 == s2 <;> rfl
theorem ref10_Has_q {n : Nat} {b0 : Bool} {r1 : Rows} {s2 : ByteArray} (hb : r1.length < big) (hn : r1.length < n) : ref10_Has_v n b0 r1 s2 = some (hasS s2 r1, ()) := by
  rw [ref10_Has_e]
  exact ref10_Has_loop hb r1.length 0 (by omega) n hn
def withS (s : ByteArray) (l : Rows) : Rows := bif s == noS then l else bif hasS s l then l else l ++ [[DV.val (Value.string s)]]
theorem withS_len (s : ByteArray) (l : Rows) : (withS s l).length ≤ l.length + 1 := by
  unfold withS
  cases s == noS <;> cases hasS s l <;> simp
theorem ref10_with_q {n : Nat} {b0 b3 : Bool} {j4 : Int} {r1 : Rows} {s2 s5 : ByteArray} (hb : r1.length ≤ 100000) (hn : r1.length < n) : ∃ z, ref10_with_v n b0 r1 s2 b3 j4 s5 = some ((z, withS s2 r1), ()) := by
  rw [ref10_with_e]
  unfold withS
  have e : (s2 == ByteArray.mk #[]) = (s2 == noS) := rfl
  rw [e]
  cases s2 == noS with
  | true => exact ⟨_, rfl⟩
  | false =>
    simp only [cond_false, ref10_Has_q (n := n) (b0 := b0) (r1 := r1) (s2 := s2) (by unfold big; omega) hn, obind_some]
    cases hasS s2 r1 with
    | true => exact ⟨_, rfl⟩
    | false =>
      have hl : (r1.length + 1) * 16 ≤ 140737488355328 := by omega
      simp only [cond_false, List.length_cons, List.length_nil, Nat.zero_add, hl, if_true, appX]
      exact ⟨_, rfl⟩
/-- each of the rows is a name of V -/
def AllV (V : ByteArray → Prop) (l : Rows) : Prop := ∀ r ∈ l, V (Row.S r 0)
theorem AllV.with {V : ByteArray → Prop} {l : Rows} (h : AllV V l) {t : Tm} (ht : (t.1 == noS) = false → V t.1) : AllV V (withS t.1 l) := by
  unfold withS
  cases hs : t.1 == noS with
  | true => exact h
  | false =>
    cases hasS t.1 l with
    | true => exact h
    | false =>
      intro r hr
      rcases List.mem_append.1 hr with hr | hr
      · exact h r hr
      · rcases List.mem_singleton.1 hr with rfl
        exact ht hs
def okT (V : ByteArray → Prop) (t : Tm) : Prop := (t.1 == noS) = false → V t.1
def okL (V : ByteArray → Prop) (r : Row) : Prop := okT V (tmAt r 0) ∧ okT V (tmAt r 6) ∧ ∀ t ∈ Row.R r 5, okT V (tmAt t 0)
section
variable {n : Nat} {s0 s3 s4 s7 s10 : ByteArray} {b1 b5 b8 b11 : Bool} {j2 j9 : Int} {r6 r12 : Rows} {V : ByteArray → Prop}
theorem ref10_Bound_in (hn : 100000 < n) {p i0 : Nat} (hp : p < r12.length) (hlen : r12.length ≤ 200) (ha : (Row.R r12[p] 5).length ≤ 200) (hv : okL V r12[p]) :
    ∀ k q : Nat, q + k = (Row.R r12[p] 5).length → ∀ f nl acc, k < f → acc.length ≤ 1 + p * 202 + (q + 1) → AllV V acc →
      ∃ z rows, rows.length ≤ 1 + (p + 1) * 202 ∧ AllV V rows ∧ ref10_Bound_l7 n s0 b1 j2 s3 s4 b5 r6 s7 b8 j9 s10 b11 r12 (r12.length : Int) i0 f nl acc (q : Int) (p : Int) =
        ref10_Bound_l3 n s0 b1 j2 s3 s4 b5 r6 s7 b8 j9 s10 b11 r12 (r12.length : Int) i0 z rows ((p + 1 : Nat) : Int) := by
  have g1 : (p : Int) < (r12.length : Int) := by omega
  have g0 : (0 : Int) ≤ (p : Int) := by omega
  intro k
  induction k with
  | zero =>
    intro q hq f nl acc hf hacc hA
    obtain ⟨f, rfl⟩ : ∃ z, f = z + 1 := ⟨f - 1, by omega⟩
    rw [ref10_Bound_s7, wrap_succ (show p < big by unfold big; omega)]
    have h1 : ¬ ((q : Int) < ((Row.R r12[p] 5).length : Int)) := by omega
    obtain ⟨z, hz⟩ := ref10_with_q (n := n) (b0 := nl) (b3 := Row.B r12[p] 7) (j4 := Row.I r12[p] 8) (r1 := acc) (s2 := Row.S r12[p] 6) (s5 := Row.S r12[p] 9) (by omega) (by omega)
    simp only [g0, g1, if_true, Int.toNat_natCast, getD_get hp, h1, decide_false, cond_false, hz, obind_some]
    refine ⟨z, _, ?_, hA.with (t := tmAt r12[p] 6) hv.2.1, rfl⟩
    have := withS_len (Row.S r12[p] 6) acc
    show (withS (Row.S r12[p] 6) acc).length ≤ _
    omega
  | succ k ih =>
    intro q hq f nl acc hf hacc hA
    obtain ⟨f, rfl⟩ : ∃ z, f = z + 1 := ⟨f - 1, by omega⟩
    have hlt : q < (Row.R r12[p] 5).length := by omega
    have h1 : (q : Int) < ((Row.R r12[p] 5).length : Int) := by omega
    have h0 : (0 : Int) ≤ (q : Int) := by omega
    rw [ref10_Bound_s7, wrap_succ (show q < big by unfold big; omega)]
    obtain ⟨z, hz⟩ := ref10_with_q (n := n) (b0 := nl) (b3 := Row.B (Row.R r12[p] 5)[q] 1) (j4 := Row.I (Row.R r12[p] 5)[q] 2) (r1 := acc) (s2 := Row.S (Row.R r12[p] 5)[q] 0) (s5 := Row.S (Row.R r12[p] 5)[q] 3) (by omega) (by omega)
    simp only [g0, g1, if_true, Int.toNat_natCast, getD_get hp, h1, h0, decide_true, cond_true, getD_get hlt, hz, obind_some]
    have hw := withS_len (Row.S (Row.R r12[p] 5)[q] 0) acc
    exact ih (q + 1) (by omega) f z _ (by omega) (by omega) (hA.with (t := tmAt (Row.R r12[p] 5)[q] 0) (hv.2.2 _ (List.getElem_mem hlt)))
theorem ref10_Bound_loop (hn : 100000 < n) (hlen : r12.length ≤ 200) (ha : ∀ r ∈ r12, (Row.R r 5).length ≤ 200) (hv : ∀ r ∈ r12, okL V r) :
    ∀ k p : Nat, p + k = r12.length → ∀ f nl acc, k < f → acc.length ≤ 1 + p * 202 → AllV V acc →
      ∃ z rows, rows.length ≤ 50000 ∧ AllV V rows ∧ ref10_Bound_l3 n s0 b1 j2 s3 s4 b5 r6 s7 b8 j9 s10 b11 r12 (r12.length : Int) f nl acc (p : Int) = some ((z, rows), ()) := by
  intro k
  induction k with
  | zero =>
    intro p hp f nl acc hf hacc hA
    obtain ⟨f, rfl⟩ : ∃ z, f = z + 1 := ⟨f - 1, by omega⟩
    rw [ref10_Bound_s3]
    have h1 : ¬ ((p : Int) < (r12.length : Int)) := by omega
    simp only [h1, decide_false, cond_false]
    exact ⟨_, _, by omega, hA, rfl⟩
  | succ k ih =>
    intro p hp f nl acc hf hacc hA
    obtain ⟨f, rfl⟩ : ∃ z, f = z + 1 := ⟨f - 1, by omega⟩
    have hlt : p < r12.length := by omega
    have h1 : (p : Int) < (r12.length : Int) := by omega
    have h0 : (0 : Int) ≤ (p : Int) := by omega
    rw [ref10_Bound_s3]
    obtain ⟨z, hz⟩ := ref10_with_q (n := n) (b0 := nl) (b3 := Row.B r12[p] 1) (j4 := Row.I r12[p] 2) (r1 := acc) (s2 := Row.S r12[p] 0) (s5 := Row.S r12[p] 3) (by omega) (by omega)
    have hw := withS_len (Row.S r12[p] 0) acc
    have hvl := hv _ (List.getElem_mem hlt)
    have hal := ha _ (List.getElem_mem hlt)
    obtain ⟨z2, rows, h2, h3, h4⟩ := ref10_Bound_in (n := n) (s0 := s0) (b1 := b1) (j2 := j2) (s3 := s3) (s4 := s4) (b5 := b5) (r6 := r6) (s7 := s7) (b8 := b8) (j9 := j9) (s10 := s10) (b11 := b11) (r12 := r12) (V := V) (i0 := f) hn hlt hlen hal hvl
      (Row.R r12[p] 5).length 0 (by omega) n z (withS (Row.S r12[p] 0) acc) (by omega) (by omega) (hA.with (t := tmAt r12[p] 0) hvl.1)
    simp only [h0, h1, if_true, Int.toNat_natCast, getD_get hlt, decide_true, cond_true, hz, obind_some]
    rw [show (0 : Int) = ((0 : Nat) : Int) from rfl, h4]
    exact ih (p + 1) (by omega) f z2 rows (by omega) h2 h3
theorem ref10_Vars_q (hn : 100000 < n) (hlen : r12.length ≤ 200) (ha : ∀ r ∈ r12, (Row.R r 5).length ≤ 200) (hv : ∀ r ∈ r12, okL V r) (hh : okT V (s0, b1, j2, s3)) :
    ∃ z rows, rows.length ≤ 50000 ∧ AllV V rows ∧ ref10_Vars_v n s0 b1 j2 s3 s4 b5 r6 s7 b8 j9 s10 b11 r12 = some ((z, rows), ()) := by
  rw [ref10_Vars_e, ref10_Bound_e]
  obtain ⟨z, hz⟩ := ref10_with_q (n := n) (b0 := true) (b3 := b1) (j4 := j2) (r1 := []) (s2 := s0) (s5 := s3) (by simp) (by simp; omega)
  have hw := withS_len s0 []
  obtain ⟨z2, rows, h2, h3, h4⟩ := ref10_Bound_loop (n := n) (s0 := s0) (b1 := b1) (j2 := j2) (s3 := s3) (s4 := s4) (b5 := b5) (r6 := r6) (s7 := s7) (b8 := b8) (j9 := j9) (s10 := s10) (b11 := b11) (r12 := r12) (V := V) hn hlen ha hv
    r12.length 0 (by omega) n z (withS s0 []) (by omega) (by simp only [List.length_nil] at hw; omega) (AllV.with (t := (s0, b1, j2, s3)) (fun r hr => by cases hr) hh)
  simp only [hz, obind_some]
  have h4' : ref10_Bound_l3 n s0 b1 j2 s3 s4 b5 r6 s7 b8 j9 s10 b11 r12 (r12.length : Int) n z (withS s0 []) 0 = some ((z2, rows), ()) := h4
  rw [h4']
  exact ⟨z2, rows, h2, h3, rfl⟩
theorem open_loop {b15 : Bool} {r16 : Rows} (hb : r16.length < big) (hn : r16.length < n) (h6 : r6.length < big) : ∀ k q : Nat, q + k = r6.length → ∀ f b17, k < f →
    ∃ z, law11_open_l4 n s0 b1 j2 s3 s4 b5 r6 s7 b8 j9 s10 b11 r12 f b15 r16 b17 (q : Int) = some (z, ()) ∧ (z = false → b17 = false ∧ ∀ t ∈ r6.drop q, (Row.S t 0 == noS) = false → hasS (Row.S t 0) r16 = true) := by
  intro k
  induction k with
  | zero =>
    intro q hq f b17 hf
    obtain ⟨f, rfl⟩ : ∃ z, f = z + 1 := ⟨f - 1, by omega⟩
    rw [law11_open_s4, List.drop_eq_nil_of_le (by omega)]
    have h1 : ¬ ((q : Int) < (r6.length : Int)) := by omega
    simp only [h1, decide_false, cond_false]
    exact ⟨b17, rfl, fun h => ⟨h, fun t ht => by cases ht⟩⟩
  | succ k ih =>
    intro q hq f b17 hf
    obtain ⟨f, rfl⟩ : ∃ z, f = z + 1 := ⟨f - 1, by omega⟩
    have hlt : q < r6.length := by omega
    have h1 : (q : Int) < (r6.length : Int) := by omega
    have h0 : (0 : Int) ≤ (q : Int) := by omega
    rw [law11_open_s4, List.drop_eq_getElem_cons hlt, wrap_succ (show q < big by omega)]
    have e : (Row.S r6[q] 0 == ByteArray.mk #[]) = (Row.S r6[q] 0 == noS) := rfl
    simp only [h1, h0, decide_true, cond_true, if_true, Int.toNat_natCast, getD_get hlt, ref10_Has_q (n := n) (b0 := b15) (r1 := r16) (s2 := Row.S r6[q] 0) hb hn, obind_some, e]
    cases b17 with
    | true =>
      obtain ⟨z, hz, h⟩ := ih (q + 1) (by omega) f true (by omega)
      exact ⟨z, hz, fun hf => by have := (h hf).1; cases this⟩
    | false =>
      simp only [cond_false]
      cases hs : Row.S r6[q] 0 == noS with
      | true =>
        simp only [Bool.not_true, cond_false]
        obtain ⟨z, hz, h⟩ := ih (q + 1) (by omega) f false (by omega)
        refine ⟨z, hz, fun hf => ⟨by first | rfl | trivial, fun t ht hn => ?_⟩⟩
        rcases List.mem_cons.1 ht with rfl | ht
        · rw [hs] at hn; cases hn
        · exact (h hf).2 t ht hn
      | false =>
        simp only [Bool.not_false, cond_true]
        obtain ⟨z, hz, h⟩ := ih (q + 1) (by omega) f (!hasS (Row.S r6[q] 0) r16) (by omega)
        refine ⟨z, hz, fun hf => ⟨by first | rfl | trivial, fun t ht hn => ?_⟩⟩
        rcases List.mem_cons.1 ht with rfl | ht
        · have := (h hf).1; simpa using this
        · exact (h hf).2 t ht hn
/-- a rule that is not open: each variable of its head is one of the home or of the body -/
theorem open_q (hn : 100000 < n) (h6 : r6.length ≤ 200) (hlen : r12.length ≤ 200) (ha : ∀ r ∈ r12, (Row.R r 5).length ≤ 200) :
    ∃ z, law11_open_v n s0 b1 j2 s3 s4 b5 r6 s7 b8 j9 s10 b11 r12 = some (z, ()) ∧ (z = false → ∀ V : ByteArray → Prop, (∀ r ∈ r12, okL V r) → okT V (s0, b1, j2, s3) → okT V (s7, b8, j9, s10) ∧ ∀ t ∈ r6, okT V (tmAt t 0)) := by
  rw [law11_open_e]
  obtain ⟨z1, rows, h1, h2, h3⟩ := ref10_Vars_q (n := n) (s0 := s0) (b1 := b1) (j2 := j2) (s3 := s3) (s4 := s4) (b5 := b5) (r6 := r6) (s7 := s7) (b8 := b8) (j9 := j9) (s10 := s10) (b11 := b11) (r12 := r12) (V := fun v => ∀ V : ByteArray → Prop, (∀ r ∈ r12, okL V r) → okT V (s0, b1, j2, s3) → V v) hn hlen ha
    (fun r hr => ⟨fun hn V g _ => (g r hr).1 hn, fun hn V g _ => (g r hr).2.1 hn, fun t ht hn V g _ => (g r hr).2.2 t ht hn⟩) (fun hn V _ g => g hn)
  have hin : ∀ s, hasS s rows = true → ∀ V : ByteArray → Prop, (∀ r ∈ r12, okL V r) → okT V (s0, b1, j2, s3) → V s := fun s hs => by
    obtain ⟨r, hr, rfl⟩ := hasS_mem hs
    exact h2 r hr
  have e : (s7 == ByteArray.mk #[]) = (s7 == noS) := rfl
  simp only [h3, obind_some, e, ref10_Has_q (n := n) (b0 := z1) (r1 := rows) (s2 := s7) (by unfold big; omega) (by omega)]
  have step : ∀ b17, (b17 = false → (s7 == noS) = false → hasS s7 rows = true) → ∃ z, law11_open_l4 n s0 b1 j2 s3 s4 b5 r6 s7 b8 j9 s10 b11 r12 n z1 rows b17 0 = some (z, ()) ∧ (z = false → ∀ V : ByteArray → Prop, (∀ r ∈ r12, okL V r) → okT V (s0, b1, j2, s3) → okT V (s7, b8, j9, s10) ∧ ∀ t ∈ r6, okT V (tmAt t 0)) := by
    intro b17 hb
    obtain ⟨z, hz, h⟩ := open_loop (n := n) (s0 := s0) (b1 := b1) (j2 := j2) (s3 := s3) (s4 := s4) (b5 := b5) (r6 := r6) (s7 := s7) (b8 := b8) (j9 := j9) (s10 := s10) (b11 := b11) (r12 := r12) (b15 := z1) (r16 := rows) (by unfold big; omega) (by omega) (by unfold big; omega) r6.length 0 (by omega) n b17 (by omega)
    refine ⟨z, hz, fun hf V g1 g2 => ?_⟩
    obtain ⟨k1, k2⟩ := h hf
    exact ⟨fun hn => hin _ (hb k1 hn) V g1 g2, fun t ht hn => hin _ (k2 t ht hn) V g1 g2⟩
  cases hs : s7 == noS with
  | true => exact step false (fun _ h => by rw [hs] at h; cases h)
  | false => exact step (!hasS s7 rows) (fun h _ => by simpa using h)
end
/-! copies -/
@[reducible] def copyRow (r : Row) : Row := [DV.val (Value.string (Row.S r 0)), DV.val (Value.string (Row.S r 1)), DV.val (Value.string (Row.S r 2)), DV.sl (false && List.isEmpty (Row.R r 3)) [Kd.b, Kd.i IntKind.i64, Kd.s] (Row.R r 3)]
theorem ref04_Copy_loop {n : Nat} {b0 : Bool} {r1 : Rows} (hb : r1.length ≤ 100000) (ha : ∀ r ∈ r1, (Row.R r 3).length ≤ 100000) : ∀ k q : Nat, q + k = r1.length → ∀ f nl acc, k < f → acc.length + k ≤ 200000 →
    ref04_Copy_l3 n b0 r1 f nl acc (q : Int) = some ((nl && (r1.drop q).isEmpty, acc ++ (r1.drop q).map copyRow), ()) := by
  intro k
  induction k with
  | zero =>
    intro q hq f nl acc hf hacc
    obtain ⟨f, rfl⟩ : ∃ z, f = z + 1 := ⟨f - 1, by omega⟩
    rw [ref04_Copy_s3, List.drop_eq_nil_of_le (by omega)]
    have h1 : ¬ ((q : Int) < (r1.length : Int)) := by omega
    simp only [h1, decide_false, cond_false, List.isEmpty_nil, Bool.and_true, List.map_nil, List.append_nil]
  | succ k ih =>
    intro q hq f nl acc hf hacc
    obtain ⟨f, rfl⟩ : ∃ z, f = z + 1 := ⟨f - 1, by omega⟩
    have hlt : q < r1.length := by omega
    have h1 : (q : Int) < (r1.length : Int) := by omega
    have h0 : (0 : Int) ≤ (q : Int) := by omega
    have hal := ha _ (List.getElem_mem hlt)
    have c1 : (0 + (Row.R r1[q] 3).length) * 32 ≤ 140737488355328 := by omega
    have c2 : (acc.length + 1) * 72 ≤ 140737488355328 := by omega
    rw [ref04_Copy_s3, List.drop_eq_getElem_cons hlt, wrap_succ (show q < big by unfold big; omega)]
    simp only [h1, h0, decide_true, cond_true, if_true, Int.toNat_natCast, getD_get hlt, c1, List.length_cons, List.length_nil, Nat.zero_add, c2, List.isEmpty_cons, Bool.and_false, appX, List.nil_append]
    simp only [Nat.zero_add] at c1
    simp only [c1, if_true]
    rw [ih (q + 1) (by omega) f false _ (by omega) (by simp only [List.length_append, List.length_cons, List.length_nil]; omega)]
    simp only [List.isEmpty_cons, Bool.and_false, Bool.false_and, List.append_assoc, List.singleton_append, List.map_cons, copyRow]
theorem ref04_Copy_q {n : Nat} {b0 : Bool} {r1 : Rows} (hb : r1.length ≤ 100000) (hn : r1.length < n) (ha : ∀ r ∈ r1, (Row.R r 3).length ≤ 100000) : ref04_Copy_v n b0 r1 = some ((r1.isEmpty, r1.map copyRow), ()) := by
  rw [ref04_Copy_e]
  have := ref04_Copy_loop (n := n) (b0 := b0) (r1 := r1) hb ha r1.length 0 (by omega) n true [] hn (by simp only [List.length_nil]; omega)
  simpa using this
end Go.Den
/- MatchInstances. -/
namespace Go.Den
open Go.Proofs
theorem tmod_idx {n : Nat} (hn : 0 < n) (hb : n ≤ 1000000) (j : Int) : ∃ k : Nat, k < n ∧ Int.tmod (IntKind.wrap IntKind.i64 (Int.tmod j (n : Int) + (n : Int))) (n : Int) = (k : Int) := by
  have h1 : Int.tmod j (n : Int) < (n : Int) := Int.tmod_lt_of_pos _ (by omega)
  have h2 : -(n : Int) < Int.tmod j (n : Int) := by
    have := Int.lt_tmod_of_pos j (b := (n : Int)) (by omega)
    simpa using this
  obtain ⟨z, hz⟩ : ∃ z : Nat, Int.tmod j (n : Int) + (n : Int) = (z : Int) := ⟨(Int.tmod j (n : Int) + (n : Int)).toNat, by omega⟩
  have hw : IntKind.wrap IntKind.i64 (z : Int) = (z : Int) := by
    obtain ⟨y, rfl⟩ : ∃ y, z = y + 1 := ⟨z - 1, by omega⟩
    exact wrap_succ (show y < big by unfold big; omega)
  rw [hz, hw]
  refine ⟨z % n, Nat.mod_lt _ hn, ?_⟩
  rw [Int.tmod_eq_emod_of_nonneg (by omega)]
  omega
theorem ne_app (s : ByteArray) : s ≠ s ++ ByteArray.mk #[120] := fun h => by
  have := congrArg ByteArray.size h
  rw [ByteArray.size_append] at this
  have h1 : (ByteArray.mk #[120]).size = 1 := rfl
  omega
theorem S_splice (r : Row) (s t u v : ByteArray) (b : Bool) (ks : List Kd) (rows : Rows) (h : r = [DV.val (Value.string s), DV.val (Value.string t), DV.val (Value.string u), DV.sl b ks rows]) : Row.S (spliceD r 2 [DV.val (Value.string v)]) 2 = v := by
  subst h; rfl
theorem law11_MatchInstances_pure (s0 : ByteArray) (b1 : Bool) (j2 : Int) (s3 s4 : ByteArray) (b5 : Bool) (r6 : Rows) (s7 : ByteArray) (b8 : Bool) (j9 : Int) (s10 : ByteArray) (b11 : Bool) (r12 : Rows) (b13 : Bool) (r14 : Rows) (j15 : Int)
    (h0 : s0.size ≤ reachBytes) (h2 : (Lit.int .i64 j2).wf = true) (h3 : s3.size ≤ reachBytes) (h4 : s4.size ≤ reachBytes) (h6 : Fsl b5 kT r6) (h7 : s7.size ≤ reachBytes) (h9 : (Lit.int .i64 j9).wf = true) (h10 : s10.size ≤ reachBytes) (h12 : Fsl b11 kL r12)
    (h14 : Fsl b13 kT r14) (_h15 : (Lit.int .i64 j15).wf = true) : ∃ n, law11_MatchInstances_v n s0 b1 j2 s3 s4 b5 r6 s7 b8 j9 s10 b11 r12 b13 r14 j15 = some (true, ()) := by
  refine ⟨1000000 + r12.length, ?_⟩
  generalize hN : 1000000 + r12.length = n
  rw [law11_MatchInstances_e]
  obtain ⟨b, hb, hl⟩ := light_q (n := n) (b1 := b1) (b8 := b8) (b13 := true) (r14 := []) (b15 := b13) (r16 := r14) ⟨h0, h2, h3, h4, h6, h7, h9, h10, h12⟩ trivial (by simp [reachBytes]) (by omega)
    (fun r hr' => by cases hr') (by simp; omega) (by omega)
  rw [hb]
  simp only [obind_some, mlive_at (n := n) (by omega)]
  cases b with
  | false => rfl
  | true =>
  obtain ⟨g1, g2, g3, _, _, g6⟩ := hl rfl
  simp only [Bool.not_true, cond_false]
  have hbig : r14.length < big := by unfold big; omega
  have ha : ∀ r ∈ r12, (Row.R r 5).length ≤ 100000 ∧ (Row.R r 5).length < n := fun r hr => by have := g3 r hr; omega
  rw [match_Head_q hbig (by omega) (by omega) (by omega), match_Body_q hbig (by omega) (by omega) (by omega) ha]
  cases hH : headS (s0, b1, j2, s3) (s7, b8, j9, s10) s4 r6 r14 with
  | none => simp only [outH, obind_some, Bool.not_false, cond_true]
  | some d =>
  cases hB : bodyS (s0, b1, j2, s3) r14 r12 with
  | none => simp only [outH, outV, obind_some, Bool.not_true, cond_false, Bool.not_false, cond_true]
  | some m =>
  obtain ⟨z, hz, ho⟩ := open_q (n := n) (s0 := s0) (b1 := b1) (j2 := j2) (s3 := s3) (s4 := s4) (b5 := b5) (r6 := r6) (s7 := s7) (b8 := b8) (j9 := j9) (s10 := s10) (b11 := b11) (r12 := r12) (by omega) g1 g2 g3
  simp only [outH, outV, obind_some, Bool.not_true, cond_false, hz, List.nil_append, Bool.true_and]
  cases z with
  | true => rfl
  | false =>
  obtain ⟨i1, i2⟩ := bodyS_fine hB
  have i3 := i2 200 (fun r hr => g3 r hr)
  have hd := headS_len hH
  have hfol : followsS (s0, b1, j2, s3) (s7, b8, j9, s10) s4 r6 r12 d m = true := follows_under hH hB (fun e k1 k2 => by
    obtain ⟨o1, o2⟩ := ho rfl (fun v => ∃ c, look v e = some c) (fun r hr => k2 r hr) k1
    exact ⟨o1, o2⟩)
  have eq : ∀ rows, match_Follows_v n s0 b1 j2 s3 s4 b5 r6 s7 b8 j9 s10 b11 r12 0 d.fst d.snd.fst d.snd.snd.fst d.snd.snd.snd.isEmpty d.snd.snd.snd false rows = some (followsS (s0, b1, j2, s3) (s7, b8, j9, s10) s4 r6 r12 d rows, ()) := fun rows => match_Follows_q (by omega) g1 g2 g3 (by omega)
  have eq2 : match_Follows_v n s0 b1 j2 s3 s4 b5 r6 s7 b8 j9 s10 b11 r12 0 d.fst d.snd.fst d.snd.snd.fst d.snd.snd.snd.isEmpty d.snd.snd.snd m.isEmpty m = some (followsS (s0, b1, j2, s3) (s7, b8, j9, s10) s4 r6 r12 d m, ()) := match_Follows_q (by omega) g1 g2 g3 (by omega)
  simp only [cond_false, eq2, hfol, obind_some, Bool.not_true]
  cases hm : (m.length : Int) == 0 with
  | true => rfl
  | false =>
  have hm0 : 0 < m.length := by
    have h : ¬ (m.length : Int) = 0 := by simpa using hm
    omega
  have hc := ref04_Copy_q (n := n) (b0 := false) (r1 := m) (by omega) (by omega) (fun r hr => by have := i3 r hr; omega)
  obtain ⟨k, hk, ek⟩ := tmod_idx hm0 (by omega) j15
  have e1 : m.isEmpty = false := by cases m with | nil => simp at hm0 | cons _ _ => rfl
  have e2 : (m.map copyRow).isEmpty = false := by cases m with | nil => simp at hm0 | cons _ _ => rfl
  have c0 : ¬ ((m.length : Int) = 0) := by omega
  have c1 : (0 : Int) ≤ (k : Int) := by omega
  have c2 : (k : Int) < (m.length : Int) := by omega
  have hk' : k < (m.map copyRow).length := by simpa using hk
  have hp := body_pred (k := k) (by omega) hk hB
  have hsz : (Row.S m[k] 2).size ≤ reachBytes := by
    rw [hp]
    exact (fineL (rowsFine_mem h12.2.2.1 (List.getElem_mem (by omega)))).2
  have hrow : Row.S (m.map copyRow)[k] 2 = Row.S m[k] 2 := by rw [List.getElem_map]; rfl
  have c3 : ((Row.S m[k] 2).size + 1 < 4611686018427387904) := by unfold reachBytes at hsz; omega
  simp only [cond_false, hc, obind_some, e1, e2, Bool.or_self, List.length_map, ek, c0, if_false, c1, c2, if_true, Nat.zero_add, Int.toNat_natCast, hk, getD_get hk', hrow, c3, List.length_set, Nat.le_refl, List.drop_zero, eq]
  have hcut : List.take m.length ((m.map copyRow).set k (spliceD (m.map copyRow)[k] 2 [DV.val (Value.string (Row.S m[k] 2 ++ ByteArray.mk #[120]))])) = (m.map copyRow).set k (spliceD (m.map copyRow)[k] 2 [DV.val (Value.string (Row.S m[k] 2 ++ ByteArray.mk #[120]))]) := List.take_of_length_le (by simp)
  rw [hcut]
  have f1 : followsS (s0, b1, j2, s3) (s7, b8, j9, s10) s4 r6 r12 d ((m.map copyRow).set k (spliceD (m.map copyRow)[k] 2 [DV.val (Value.string (Row.S m[k] 2 ++ ByteArray.mk #[120]))])) = false := by
    refine follows_bad (k := k) (by omega) (by simpa using hk) ?_
    rw [List.getElem_set_self, S_splice (h := by rw [List.getElem_map]), ← hp]
    exact ne_app _
  have f2 : ∀ l : Rows, l.length = m.length → followsS (s0, b1, j2, s3) (s7, b8, j9, s10) s4 r6 r12 d (List.drop 1 l) = false := fun l hl => follows_short (by simp; omega)
  simp only [f1, Bool.not_false, cond_true, List.length_set, List.length_map]
  have c4 : (1 : Int) ≤ (m.length : Int) := by omega
  simp only [c4, if_true, Int.le_refl, Int.toNat_natCast]
  rw [hcut, f2 _ (by simp)]
  rfl
end Go.Den
