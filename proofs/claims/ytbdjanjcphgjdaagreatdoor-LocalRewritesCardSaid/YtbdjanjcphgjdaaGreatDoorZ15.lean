import Derived.Test.YtbdjanjcphgjdaaGreatDoorZ14
set_option linter.unusedVariables false
set_option linter.unusedSimpArgs false
set_option linter.unusedSectionVars false
namespace Go.Den
open Go.Proofs
@[reducible] def bSays : ByteArray := ByteArray.mk #[32, 115, 97, 121, 115, 32]
@[reducible] def bAt : ByteArray := ByteArray.mk #[32, 97, 116, 32]
@[reducible] def bTo : ByteArray := ByteArray.mk #[32, 116, 111, 32]
@[reducible] def bColon : ByteArray := ByteArray.mk #[58, 32]
@[reducible] def bIf : ByteArray := ByteArray.mk #[32, 58, 45, 32]
structure LitOk (n : Nat) (l : Row) : Prop where
  by_ : TmOk n (tmAt l 0)
  pred : (Row.S l 4).size ≤ 5000
  len : (Row.R l 5).length ≤ 1000
  args : ∀ r ∈ Row.R l 5, TmOk n (tmAt r 0)
  at_ : TmOk n (tmAt l 6)
structure RuleOk (n : Nat) (r : Row) : Prop where
  home : TmOk n (tmAt r 0)
  pred : (Row.S r 4).size ≤ 5000
  len : (Row.R r 5).length ≤ 1000
  args : ∀ a ∈ Row.R r 5, TmOk n (tmAt a 0)
  to_ : TmOk n (tmAt r 6)
  blen : (Row.R r 10).length ≤ 1000
  body : ∀ l ∈ Row.R r 10, LitOk n l
theorem patom_size {n : Nat} {pred : ByteArray} {args : Rows} {t : ByteArray} {bad : Bool} (hr : ∀ r ∈ args, TmOk n (tmAt r 0)) : (patom pred args t bad).1.size ≤ t.size + pred.size + 50 * args.length + 2 := by
  unfold patom
  refine Nat.le_trans (pargs_size args 0 _ _ hr) ?_
  have e1 : (ByteArray.mk #[40]).size = 1 := rfl
  simp only [ByteArray.size_append]; omega
def plit (l : Row) (t : ByteArray) (bad : Bool) : ByteArray × Bool :=
  pmaybe bAt (tmAt l 6) noB (patom (Row.S l 4) (Row.R l 5) (pmaybe noB (tmAt l 0) bSays t bad).1 (pmaybe noB (tmAt l 0) bSays t bad).2).1 (patom (Row.S l 4) (Row.R l 5) (pmaybe noB (tmAt l 0) bSays t bad).1 (pmaybe noB (tmAt l 0) bSays t bad).2).2
theorem plit_size {n : Nat} {l : Row} {t : ByteArray} {bad : Bool} (h : LitOk n l) (ha : (Row.R l 5).length ≤ 4) : (plit l t bad).1.size ≤ t.size + 6000 := by
  unfold plit
  have a1 := pmaybe_size (n := n) (ahead := noB) (behind := bSays) (t := t) (bad := bad) h.by_ (by decide) (by decide)
  have a2 := patom_size (pred := Row.S l 4) (args := Row.R l 5) (t := (pmaybe noB (tmAt l 0) bSays t bad).1) (bad := (pmaybe noB (tmAt l 0) bSays t bad).2) h.args
  have a3 := pmaybe_size (n := n) (ahead := bAt) (behind := noB) (t := (patom (Row.S l 4) (Row.R l 5) (pmaybe noB (tmAt l 0) bSays t bad).1 (pmaybe noB (tmAt l 0) bSays t bad).2).1) (bad := (patom (Row.S l 4) (Row.R l 5) (pmaybe noB (tmAt l 0) bSays t bad).1 (pmaybe noB (tmAt l 0) bSays t bad).2).2) h.at_ (by decide) (by decide)
  have := h.pred
  omega
theorem pmaybe_ge {ahead behind t : ByteArray} {a : Tm} {bad : Bool} : t.size ≤ (pmaybe ahead a behind t bad).1.size := by
  unfold pmaybe
  cases nilT a with
  | true => exact Nat.le_refl _
  | false => simp only [cond_false, ByteArray.size_append]; omega
theorem pargs_ge : ∀ (l : Rows) (q : Nat) (t : ByteArray) (bad : Bool), t.size ≤ (pargs q l t bad).1.size
  | [], q, t, bad => by
    show _ ≤ (t ++ ByteArray.mk #[41]).size
    rw [ByteArray.size_append]; omega
  | r :: l, q, t, bad => by
    unfold pargs
    refine Nat.le_trans ?_ (pargs_ge l (q + 1) _ _)
    cases bad <;> cases decide (0 < q) <;> simp only [cond_true, cond_false, ByteArray.size_append] <;> omega
theorem patom_ge {pred : ByteArray} {args : Rows} {t : ByteArray} {bad : Bool} : t.size ≤ (patom pred args t bad).1.size := by
  unfold patom
  refine Nat.le_trans ?_ (pargs_ge args 0 _ _)
  rw [ByteArray.size_append]; omega
theorem plit_ge {l : Row} {t : ByteArray} {bad : Bool} : t.size ≤ (plit l t bad).1.size := by
  unfold plit
  exact Nat.le_trans pmaybe_ge (Nat.le_trans patom_ge pmaybe_ge)
def pbody : Nat → Rows → ByteArray → Bool → Option ByteArray
  | _, [], t, bad => bif bad then none else some (t ++ ByteArray.mk #[46])
  | q, l :: ls, t, bad => bif bad then none else bif decide ((Row.R l 5).length > 4) then none else
    pbody (q + 1) ls (plit l (bif decide (0 < q) then t ++ comma else t) bad).1 (plit l (bif decide (0 < q) then t ++ comma else t) bad).2
def outS (o : Option ByteArray) : (ByteArray × Int × Unit) × Unit := match o with | some s => ((s, (0, ())), ()) | none => ((noB, (100, ())), ())
theorem string_q {n : Nat} {nl bad : Bool} {t : ByteArray} (h : 1 ≤ t.size) : sB_String_v n nl (byteRows t) bad = some (t, (((), ((nl, byteRows t), (bad, ()))), ())) := by
  unfold sB_String_v
  have h1 : (byteRows t).isEmpty = false := by
    have := byteRows_len t
    cases hb : byteRows t with
    | nil => rw [hb] at this; simp at this; omega
    | cons a l => rfl
  rw [h1, okBytes_byteRows, bytesOf_byteRows]
  rfl
theorem plit_q {n : Nat} {l : Row} {t : ByteArray} {nl bad : Bool} (hn : 10000 < n) (h : LitOk n l) (ht : t.size ≤ 800000) (ha : (Row.R l 5).length ≤ 4) {R : Type} (k : Unit × (Unit × (Bool × Rows) × Bool × Unit) × Unit → Option R) : ∃ nl',
    (obind (z87_v n (ByteArray.mk #[]) (Row.S l 0) (Row.B l 1) (Row.I l 2) (Row.S l 3) bSays nl (byteRows t) bad) fun y =>
     obind (z97_v n (Row.S l 4) (Row.N l 5) (Row.R l 5) y.snd.fst.snd.fst.fst y.snd.fst.snd.fst.snd y.snd.fst.snd.snd.fst) fun z =>
     obind (z87_v n bAt (Row.S l 6) (Row.B l 7) (Row.I l 8) (Row.S l 9) (ByteArray.mk #[]) z.snd.fst.snd.fst.fst z.snd.fst.snd.fst.snd z.snd.fst.snd.snd.fst) k) = k (pst nl' (plit l t bad).1 (plit l t bad).2) := by
  have a1 := pmaybe_size (n := n) (ahead := noB) (behind := bSays) (t := t) (bad := bad) h.by_ (by decide) (by decide)
  have a2 := patom_size (pred := Row.S l 4) (args := Row.R l 5) (t := (pmaybe noB (tmAt l 0) bSays t bad).1) (bad := (pmaybe noB (tmAt l 0) bSays t bad).2) h.args
  have a3 := h.pred
  obtain ⟨n1, h1⟩ := pmaybe_q (n := n) (ahead := noB) (behind := bSays) (t := t) (nl := nl) (bad := bad) h.by_ hn (by decide) (by decide) (by omega)
  obtain ⟨n2, h2⟩ := patom_q (n := n) (pred := Row.S l 4) (anl := Row.N l 5) (args := Row.R l 5) (t := (pmaybe noB (tmAt l 0) bSays t bad).1) (nl := n1) (bad := (pmaybe noB (tmAt l 0) bSays t bad).2) hn h.pred h.args h.len (by omega)
  obtain ⟨n3, h3⟩ := pmaybe_q (n := n) (ahead := bAt) (behind := noB) (t := (patom (Row.S l 4) (Row.R l 5) (pmaybe noB (tmAt l 0) bSays t bad).1 (pmaybe noB (tmAt l 0) bSays t bad).2).1) (nl := n2) (bad := (patom (Row.S l 4) (Row.R l 5) (pmaybe noB (tmAt l 0) bSays t bad).1 (pmaybe noB (tmAt l 0) bSays t bad).2).2) h.at_ hn (by decide) (by decide) (by omega)
  have h1' : z87_v n (ByteArray.mk #[]) (Row.S l 0) (Row.B l 1) (Row.I l 2) (Row.S l 3) bSays nl (byteRows t) bad = _ := h1
  have h3' : z87_v n bAt (Row.S l 6) (Row.B l 7) (Row.I l 8) (Row.S l 9) (ByteArray.mk #[]) _ _ _ = _ := h3
  refine ⟨n3, ?_⟩
  rw [h1']
  simp only [obind_some]
  rw [h2]
  simp only [obind_some]
  rw [h3']
  rfl
section
variable {n : Nat} {s0 : ByteArray} {b1 : Bool} {j2 : Int} {s3 s4 : ByteArray} {b5 : Bool} {r6 : Rows} {s7 : ByteArray} {b8 : Bool} {j9 : Int} {s10 : ByteArray} {b11 : Bool} {r12 : Rows}
theorem pbody_q (hn : 10000 < n) (hr : ∀ l ∈ r12, LitOk n l) (hl : r12.length ≤ 10) : ∀ k q : Nat, q + k = r12.length → ∀ f nl t bad, k < f → 1 ≤ t.size → t.size ≤ 100000 + 10000 * q →
    z82_l10 n s0 b1 j2 s3 s4 b5 r6 s7 b8 j9 s10 b11 r12 f nl (byteRows t) bad (q : Int) = some (outS (pbody q (r12.drop q) t bad)) := by
  intro k
  induction k with
  | zero =>
    intro q hq f nl t bad hf h0 ht
    obtain ⟨f, rfl⟩ : ∃ z, f = z + 1 := ⟨f - 1, by omega⟩
    rw [z82_s10, List.drop_eq_nil_of_le (by omega)]
    have h1 : ¬ (q : Int) < (r12.length : Int) := by omega
    simp only [h1, decide_false, cond_false, pbody]
    cases bad with
    | true => rfl
    | false =>
      simp only [cond_false]
      rw [string_q h0]
      simp only [obind_some, show t.size + 1 < 4611686018427387904 by omega, if_true]
      rfl
  | succ k ih =>
    intro q hq f nl t bad hf h0 ht
    obtain ⟨f, rfl⟩ : ∃ z, f = z + 1 := ⟨f - 1, by omega⟩
    have hlt : q < r12.length := by omega
    have h1 : (q : Int) < (r12.length : Int) := by omega
    have h2 : (0 : Int) ≤ (q : Int) := by omega
    have hL := hr _ (List.getElem_mem hlt)
    have e2 : comma.size = 2 := rfl
    have hdec : decide ((q : Int) > 0) = decide (0 < q) := decide_eq_decide.2 (by omega)
    have hd4 : decide (((Row.R r12[q] 5).length : Int) > 4) = decide ((Row.R r12[q] 5).length > 4) := decide_eq_decide.2 (by omega)
    rw [z82_s10, List.drop_eq_getElem_cons hlt, wrap_succ (show q < big by unfold big; omega)]
    simp only [h1, h2, if_true, decide_true, cond_true, Int.toNat_natCast, getD_get hlt, pbody, hdec, hd4]
    cases hq0 : decide (0 < q) with
    | true =>
      simp only [cond_true]
      rw [writes_q (s := comma) (t := t) (by omega)]
      simp only [obind_some]
      cases bad with
      | true => rfl
      | false =>
        simp only [cond_false]
        by_cases h4 : (Row.R r12[q] 5).length > 4
        · simp only [h4, decide_true, cond_true]; rfl
        · simp only [h4, decide_false, cond_false]
          have hs := plit_size (t := t ++ comma) (bad := false) hL (by omega)
          have hsz : (t ++ comma).size = t.size + comma.size := ByteArray.size_append ..
          obtain ⟨nl', he⟩ := plit_q (t := t ++ comma) (nl := nl && comma.size == 0) (bad := false) hn hL (by omega) (by omega) (fun y => z82_l10 n s0 b1 j2 s3 s4 b5 r6 s7 b8 j9 s10 b11 r12 f y.snd.fst.snd.fst.fst y.snd.fst.snd.fst.snd y.snd.fst.snd.snd.fst ((q + 1 : Nat) : Int))
          refine he.trans ?_
          have hge := plit_ge (l := r12[q]) (t := t ++ comma) (bad := false)
          have hq1 : 100000 + 10000 * (q + 1) = 100000 + 10000 * q + 10000 := by omega
          exact ih (q + 1) (by omega) f nl' (plit r12[q] (t ++ comma) false).1 (plit r12[q] (t ++ comma) false).2 (by omega) (by omega) (by rw [hq1]; omega)
    | false =>
      simp only [cond_false]
      cases bad with
      | true => rfl
      | false =>
        simp only [cond_false]
        by_cases h4 : (Row.R r12[q] 5).length > 4
        · simp only [h4, decide_true, cond_true]; rfl
        · simp only [h4, decide_false, cond_false]
          have hs := plit_size (t := t) (bad := false) hL (by omega)
          obtain ⟨nl', he⟩ := plit_q (t := t) (nl := nl) (bad := false) hn hL (by omega) (by omega) (fun y => z82_l10 n s0 b1 j2 s3 s4 b5 r6 s7 b8 j9 s10 b11 r12 f y.snd.fst.snd.fst.fst y.snd.fst.snd.fst.snd y.snd.fst.snd.snd.fst ((q + 1 : Nat) : Int))
          refine he.trans ?_
          have hge := plit_ge (l := r12[q]) (t := t) (bad := false)
          have hq1 : 100000 + 10000 * (q + 1) = 100000 + 10000 * q + 10000 := by omega
          exact ih (q + 1) (by omega) f nl' (plit r12[q] (t) false).1 (plit r12[q] (t) false).2 (by omega) (by omega) (by rw [hq1]; omega)
end
def prule (r : Row) : Option ByteArray :=
  bif decide ((Row.R r 10).length < 1) then none else bif decide ((Row.R r 10).length > 4) then none else bif decide ((Row.R r 5).length > 4) then none else
  pbody 0 (Row.R r 10) ((pmaybe bTo (tmAt r 6) noB (patom (Row.S r 4) (Row.R r 5) (noB ++ tx1 (tmAt r 0) ++ bColon) (term1 (tmAt r 0)).isNone).1 (patom (Row.S r 4) (Row.R r 5) (noB ++ tx1 (tmAt r 0) ++ bColon) (term1 (tmAt r 0)).isNone).2).1 ++ bIf)
    (pmaybe bTo (tmAt r 6) noB (patom (Row.S r 4) (Row.R r 5) (noB ++ tx1 (tmAt r 0) ++ bColon) (term1 (tmAt r 0)).isNone).1 (patom (Row.S r 4) (Row.R r 5) (noB ++ tx1 (tmAt r 0) ++ bColon) (term1 (tmAt r 0)).isNone).2).2
theorem z82_q {n : Nat} {r : Row} (hn : 10000 < n) (h : RuleOk n r) : z82_v n (Row.S r 0) (Row.B r 1) (Row.I r 2) (Row.S r 3) (Row.S r 4) (Row.N r 5) (Row.R r 5) (Row.S r 6) (Row.B r 7) (Row.I r 8) (Row.S r 9) (Row.N r 10) (Row.R r 10) = some (outS (prule r)) := by
  rw [z82_e]
  unfold prule
  have d1 : decide (((Row.R r 10).length : Int) < 1) = decide ((Row.R r 10).length < 1) := decide_eq_decide.2 (by omega)
  have d2 : decide (((Row.R r 10).length : Int) > 4) = decide ((Row.R r 10).length > 4) := decide_eq_decide.2 (by omega)
  have d3 : decide (((Row.R r 5).length : Int) > 4) = decide ((Row.R r 5).length > 4) := decide_eq_decide.2 (by omega)
  rw [d1, d2, d3]
  by_cases h1 : (Row.R r 10).length < 1
  · simp only [h1, decide_true, cond_true]; rfl
  by_cases h2 : (Row.R r 10).length > 4
  · simp only [h1, h2, decide_true, decide_false, cond_true, cond_false]; rfl
  by_cases h3 : (Row.R r 5).length > 4
  · simp only [h1, h2, h3, decide_true, decide_false, cond_true, cond_false]; rfl
  simp only [h1, h2, h3, decide_false, cond_false]
  have hT := tx1_size h.home.lo h.home.hi
  obtain ⟨n1, e1⟩ := pterm_nilp h.home hn
  have e1' : z26_v n (ByteArray.mk #[]) (Row.S r 0) (Row.B r 1) (Row.I r 2) (Row.S r 3) true [] false = some (pst n1 (noB ++ tx1 (tmAt r 0)) (term1 (tmAt r 0)).isNone) := e1
  rw [e1']
  simp only [obind_some]
  have z1 : (noB ++ tx1 (tmAt r 0)).size = noB.size + (tx1 (tmAt r 0)).size := ByteArray.size_append ..
  have z2 : (noB ++ tx1 (tmAt r 0) ++ bColon).size = (noB ++ tx1 (tmAt r 0)).size + bColon.size := ByteArray.size_append ..
  have c0 : noB.size = 0 := rfl
  have c1 : bColon.size = 2 := rfl
  have c2 : bIf.size = 4 := rfl
  rw [writes_q (s := bColon) (t := noB ++ tx1 (tmAt r 0)) (by omega)]
  simp only [obind_some]
  generalize ht0 : noB ++ tx1 (tmAt r 0) ++ bColon = t0 at z2 ⊢
  generalize (term1 (tmAt r 0)).isNone = bad0
  obtain ⟨n2, e2⟩ := patom_q (n := n) (pred := Row.S r 4) (anl := Row.N r 5) (args := Row.R r 5) (t := t0) (nl := n1 && bColon.size == 0) (bad := bad0) hn h.pred h.args h.len (by omega)
  rw [e2]
  simp only [obind_some]
  have z3 := patom_size (pred := Row.S r 4) (args := Row.R r 5) (t := t0) (bad := bad0) h.args
  have hp := h.pred
  generalize patom (Row.S r 4) (Row.R r 5) t0 bad0 = a at z3 ⊢
  obtain ⟨n3, e3⟩ := pmaybe_q (n := n) (ahead := bTo) (behind := noB) (t := a.1) (nl := n2) (bad := a.2) h.to_ hn (by decide) (by decide) (by omega)
  have e3' : z87_v n bTo (Row.S r 6) (Row.B r 7) (Row.I r 8) (Row.S r 9) (ByteArray.mk #[]) n2 (byteRows a.1) a.2 = _ := e3
  rw [e3']
  simp only [obind_some]
  have z4 := pmaybe_size (n := n) (ahead := bTo) (behind := noB) (t := a.1) (bad := a.2) h.to_ (by decide) (by decide)
  generalize pmaybe bTo (tmAt r 6) noB a.1 a.2 = m at z4 ⊢
  rw [writes_q (s := bIf) (t := m.1) (by omega)]
  simp only [obind_some]
  have z5 : (m.1 ++ bIf).size = m.1.size + bIf.size := ByteArray.size_append ..
  have := pbody_q (n := n) (s0 := Row.S r 0) (b1 := Row.B r 1) (j2 := Row.I r 2) (s3 := Row.S r 3) (s4 := Row.S r 4) (b5 := Row.N r 5) (r6 := Row.R r 5) (s7 := Row.S r 6) (b8 := Row.B r 7) (j9 := Row.I r 8) (s10 := Row.S r 9) (b11 := Row.N r 10) (r12 := Row.R r 10)
    hn h.body (by omega) (Row.R r 10).length 0 (by omega) n (n3 && bIf.size == 0) (m.1 ++ bIf) m.2 (by have := h.blen; omega) (by omega) (by omega)
  exact this
end Go.Den
