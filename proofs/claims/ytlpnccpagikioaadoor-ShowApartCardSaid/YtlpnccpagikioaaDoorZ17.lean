import Derived.Test.YtlpnccpagikioaaDoorZ16
set_option linter.unusedVariables false
set_option linter.unusedSimpArgs false
set_option linter.unusedSectionVars false
/- Rules and programs shown: the document's code, and both programs. -/
namespace Go.Den
open Go.Proofs
section
variable {n : Nat} {s0 : ByteArray} {b1 : Bool} {j2 : Int} {s3 s4 : ByteArray} {b5 : Bool} {r6 : Rows} {s7 : ByteArray} {b8 : Bool} {j9 : Int} {s10 : ByteArray} {b11 : Bool} {r12 : Rows}
theorem rbody_q (hn : 10000 < n) (hr : ∀ l ∈ r12, LitOk n l) (hl : r12.length ≤ 10) : ∀ k q : Nat, q + k = r12.length → ∀ f acc, k < f → acc.size ≤ 100000 + 1000 * q →
    ref09_Rule_l10 n s0 b1 j2 s3 s4 b5 r6 s7 b8 j9 s10 b11 r12 f acc (q : Int) = some (outS (bodyR q (r12.drop q) acc)) := by
  intro k
  induction k with
  | zero =>
    intro q hq f acc hf ht
    obtain ⟨f, rfl⟩ : ∃ z, f = z + 1 := ⟨f - 1, by omega⟩
    rw [ref09_Rule_s10, List.drop_eq_nil_of_le (by omega)]
    have h1 : ¬ (q : Int) < (r12.length : Int) := by omega
    simp only [h1, decide_false, cond_false, bodyR, show acc.size + 1 < 4611686018427387904 by omega, if_true]
    rfl
  | succ k ih =>
    intro q hq f acc hf ht
    obtain ⟨f, rfl⟩ : ∃ z, f = z + 1 := ⟨f - 1, by omega⟩
    have hlt : q < r12.length := by omega
    have h1 : (q : Int) < (r12.length : Int) := by omega
    have h2 : (0 : Int) ≤ (q : Int) := by omega
    have hL := hr _ (List.getElem_mem hlt)
    have hdec : decide ((q : Int) > 0) = decide (0 < q) := decide_eq_decide.2 (by omega)
    have hA : ref09_maybe_v n (ByteArray.mk #[]) (Row.S r12[q] 0) (Row.B r12[q] 1) (Row.I r12[q] 2) (Row.S r12[q] 3) (ByteArray.mk #[32, 115, 97, 121, 115, 32]) = some (outM noB bSays (maybeR noB (tmAt r12[q] 0) bSays)) := by
      have := rmaybe_q (x := tmAt r12[q] 0) (a := noB) (b := bSays) hn hL.by_ (by decide) (by decide)
      exact this
    have hC : ref09_maybe_v n (ByteArray.mk #[32, 97, 116, 32]) (Row.S r12[q] 6) (Row.B r12[q] 7) (Row.I r12[q] 8) (Row.S r12[q] 9) (ByteArray.mk #[]) = some (outM bAt noB (maybeR bAt (tmAt r12[q] 6) noB)) := by
      have := rmaybe_q (x := tmAt r12[q] 6) (a := bAt) (b := noB) hn hL.at_ (by decide) (by decide)
      exact this
    rw [ref09_Rule_s10, List.drop_eq_getElem_cons hlt, wrap_succ (show q < big by unfold big; omega)]
    simp only [h1, h2, if_true, decide_true, cond_true, Int.toNat_natCast, getD_get hlt, hdec, hA, hC, ratom_q hn hL.args, obind_some]
    unfold bodyR litR
    cases e1 : maybeR noB (tmAt r12[q] 0) bSays with
    | none => rfl
    | some x =>
    have a1 := maybeR_size hL.by_ (by decide) (by decide) e1
    cases e2 : atomR (Row.S r12[q] 4) (Row.R r12[q] 5) with
    | none => rfl
    | some y =>
    have a2 := atomR_size hL.args e2
    cases e3 : maybeR bAt (tmAt r12[q] 6) noB with
    | none => rfl
    | some z =>
    have a3 := maybeR_size hL.at_ (by decide) (by decide) e3
    have c2 : (ByteArray.mk #[44, 32]).size = 2 := rfl
    have z1 : (x ++ y).size = x.size + y.size := ByteArray.size_append ..
    have z2 : (x ++ y ++ z).size = (x ++ y).size + z.size := ByteArray.size_append ..
    have z3 : (acc ++ ByteArray.mk #[44, 32]).size = acc.size + (ByteArray.mk #[44, 32]).size := ByteArray.size_append ..
    simp only [outM, outB, Bool.not_true, cond_false]
    cases hq0 : decide (0 < q) with
    | true =>
      simp only [cond_true, show acc.size + 2 < 4611686018427387904 by omega, show x.size + y.size < 4611686018427387904 by omega, show (x ++ y).size + z.size < 4611686018427387904 by omega, show (acc ++ ByteArray.mk #[44, 32]).size + (x ++ y ++ z).size < 4611686018427387904 by omega, if_true]
      have z4 : (acc ++ ByteArray.mk #[44, 32] ++ (x ++ y ++ z)).size = (acc ++ ByteArray.mk #[44, 32]).size + (x ++ y ++ z).size := ByteArray.size_append ..
      exact ih (q + 1) (by omega) f _ (by omega) (by omega)
    | false =>
      simp only [cond_false, show x.size + y.size < 4611686018427387904 by omega, show (x ++ y).size + z.size < 4611686018427387904 by omega, show acc.size + (x ++ y ++ z).size < 4611686018427387904 by omega, if_true]
      have z4 : (acc ++ (x ++ y ++ z)).size = acc.size + (x ++ y ++ z).size := ByteArray.size_append ..
      exact ih (q + 1) (by omega) f _ (by omega) (by omega)
end
theorem ref_Rule_q {n : Nat} {r : Row} (hn : 10000 < n) (h : RuleOk n r) : ref09_Rule_v n (Row.S r 0) (Row.B r 1) (Row.I r 2) (Row.S r 3) (Row.S r 4) (Row.N r 5) (Row.R r 5) (Row.S r 6) (Row.B r 7) (Row.I r 8) (Row.S r 9) (Row.N r 10) (Row.R r 10) = some (outS (ruleR r)) := by
  rw [ref09_Rule_e]
  unfold ruleR headR
  have d1 : decide (((Row.R r 10).length : Int) < 1) = decide ((Row.R r 10).length < 1) := decide_eq_decide.2 (by omega)
  have d2 : decide (((Row.R r 10).length : Int) > 4) = decide ((Row.R r 10).length > 4) := decide_eq_decide.2 (by omega)
  rw [d1, d2]
  by_cases h1 : (Row.R r 10).length < 1
  · simp only [h1, decide_true, cond_true]; rfl
  by_cases h2 : (Row.R r 10).length > 4
  · simp only [h1, h2, decide_true, decide_false, cond_true, cond_false]; rfl
  simp only [h1, h2, decide_false, cond_false]
  have hH : ref09_Term_v n (Row.S r 0) (Row.B r 1) (Row.I r 2) (Row.S r 3) = some (outS (term1 (tmAt r 0))) := ref_T1 rfl h.home hn
  have hM : ref09_maybe_v n (ByteArray.mk #[32, 116, 111, 32]) (Row.S r 6) (Row.B r 7) (Row.I r 8) (Row.S r 9) (ByteArray.mk #[]) = some (outM bTo noB (maybeR bTo (tmAt r 6) noB)) := by
    have := rmaybe_q (x := tmAt r 6) (a := bTo) (b := noB) hn h.to_ (by decide) (by decide)
    exact this
  simp only [hH, hM, ratom_q hn h.args, obind_some]
  have n100 : ((100 : Int) != 0) = true := rfl
  cases e1 : term1 (tmAt r 0) with
  | none => simp only [outS, n100, cond_true]
  | some x =>
  have a1 := term1_size h.home.lo h.home.hi e1
  simp only [outS, bne_self_eq_false, cond_false]
  cases e2 : atomR (Row.S r 4) (Row.R r 5) with
  | none => rfl
  | some y =>
  have a2 := atomR_size h.args e2
  cases e3 : maybeR bTo (tmAt r 6) noB with
  | none => rfl
  | some z =>
  have a3 := maybeR_size h.to_ (by decide) (by decide) e3
  have c2 : bColon.size = 2 := rfl
  have c3 : bIf.size = 4 := rfl
  have z1 : (x ++ bColon).size = x.size + bColon.size := ByteArray.size_append ..
  have z2 : (x ++ bColon ++ y).size = (x ++ bColon).size + y.size := ByteArray.size_append ..
  have z3 : (x ++ bColon ++ y ++ z).size = (x ++ bColon ++ y).size + z.size := ByteArray.size_append ..
  have z4 : (x ++ bColon ++ y ++ z ++ bIf).size = (x ++ bColon ++ y ++ z).size + bIf.size := ByteArray.size_append ..
  simp only [outM, outB, Bool.not_true, cond_false]
  simp only [show x.size + 2 < 4611686018427387904 by omega, show (x ++ bColon).size + y.size < 4611686018427387904 by omega, show (x ++ bColon ++ y).size + z.size < 4611686018427387904 by omega, show (x ++ bColon ++ y ++ z).size + 4 < 4611686018427387904 by omega, if_true]
  have hf := rbody_q (n := n) (s0 := Row.S r 0) (b1 := Row.B r 1) (j2 := Row.I r 2) (s3 := Row.S r 3) (s4 := Row.S r 4) (b5 := Row.N r 5) (r6 := Row.R r 5) (s7 := Row.S r 6) (b8 := Row.B r 7) (j9 := Row.I r 8) (s10 := Row.S r 9) (b11 := Row.N r 10) (r12 := Row.R r 10)
    hn h.body (by omega) (Row.R r 10).length 0 (by omega) n (x ++ bColon ++ y ++ z ++ bIf) (by omega) (by omega)
  exact hf
theorem show_Rule_r {n : Nat} {r : Row} (hn : 10000 < n) (h : RuleOk n r) : show_Rule_v n (Row.S r 0) (Row.B r 1) (Row.I r 2) (Row.S r 3) (Row.S r 4) (Row.N r 5) (Row.R r 5) (Row.S r 6) (Row.B r 7) (Row.I r 8) (Row.S r 9) (Row.N r 10) (Row.R r 10) = some (outS (ruleR r)) := by
  rw [show_Rule_q hn h, prule_ref]
/-! programs -/
theorem bodyR_size {n : Nat} : ∀ (l : Rows) (q : Nat) (acc s : ByteArray), (∀ r ∈ l, LitOk n r) → bodyR q l acc = some s → s.size ≤ acc.size + 700 * l.length + 1
  | [], q, acc, s, _, hs => by
    cases hs
    have : (ByteArray.mk #[46]).size = 1 := rfl
    rw [ByteArray.size_append]; simp only [List.length_nil]; omega
  | r :: l, q, acc, s, h, hs => by
    unfold bodyR at hs
    have h0 := h r List.mem_cons_self
    cases ht : litR r with
    | none => rw [ht] at hs; cases hs
    | some u =>
      rw [ht] at hs
      simp only at hs
      have hu := litR_size h0 ht
      have e2 : (ByteArray.mk #[44, 32]).size = 2 := rfl
      have e2' : comma.size = 2 := rfl
      have := bodyR_size l (q + 1) _ s (fun r hr => h r (List.mem_cons_of_mem _ hr)) hs
      simp only [List.length_cons]
      cases hq : decide (0 < q) with
      | true => rw [hq] at this; simp only [cond_true, ByteArray.size_append] at this; omega
      | false => rw [hq] at this; simp only [cond_false, ByteArray.size_append] at this; omega
theorem ruleR_size {n : Nat} {r : Row} {s : ByteArray} (h : RuleOk n r) (hs : ruleR r = some s) : s.size ≤ 4000 := by
  unfold ruleR headR at hs
  by_cases h1 : (Row.R r 10).length < 1
  · rw [decide_eq_true h1] at hs; cases hs
  by_cases h2 : (Row.R r 10).length > 4
  · rw [decide_eq_false h1, decide_eq_true h2] at hs; cases hs
  rw [decide_eq_false h1, decide_eq_false h2] at hs
  simp only [cond_false] at hs
  split at hs
  · rename_i u hu
    split at hu
    · rename_i x y z e1 e2 e3
      cases hu
      have a1 := term1_size h.home.lo h.home.hi e1
      have a2 := atomR_size h.args e2
      have a3 := maybeR_size h.to_ (by decide) (by decide) e3
      have := bodyR_size _ 0 _ s h.body hs
      have c2 : bColon.size = 2 := rfl
      have c3 : bIf.size = 4 := rfl
      simp only [ByteArray.size_append] at this
      have c2' : (ByteArray.mk #[58, 32]).size = 2 := rfl
      have c3' : (ByteArray.mk #[32, 58, 45, 32]).size = 4 := rfl
      omega
    · cases hu
  · cases hs
/-- rules one below the other -/
def progR : Rows → ByteArray → Option ByteArray
  | [], acc => some acc
  | r :: l, acc => match ruleR r with
    | some s => progR l (acc ++ (s ++ ByteArray.mk #[10]))
    | none => none
def progO (l : Rows) : (ByteArray × Int × Unit) × Unit :=
  bif decide (l.length > 16) then ((noB, (81, ())), ()) else
  match progR l noB with
  | some s => bif decide (s.size > 4096) then ((noB, (3, ())), ()) else ((s, (0, ())), ())
  | none => ((noB, (100, ())), ())
def progE (o : Option ByteArray) : (ByteArray × Int × Unit) × Unit :=
  match o with
  | some s => bif decide (s.size > 4096) then ((noB, (3, ())), ()) else ((s, (0, ())), ())
  | none => ((noB, (100, ())), ())
section
variable {n : Nat} {b0 : Bool} {r1 : Rows} (hn : 10000 < n) (hr : ∀ r ∈ r1, RuleOk n r) (hl : r1.length ≤ 16)
include hn hr hl
theorem show_prog_loop : ∀ k q : Nat, q + k = r1.length → ∀ f acc, k < f → acc.size ≤ 5000 * q → show_Program_l5 n b0 r1 f acc (q : Int) = some (progE (progR (r1.drop q) acc)) := by
  intro k
  induction k with
  | zero =>
    intro q hq f acc hf ha
    obtain ⟨f, rfl⟩ : ∃ z, f = z + 1 := ⟨f - 1, by omega⟩
    rw [show_Program_s5, List.drop_eq_nil_of_le (by omega)]
    have h1 : ¬ (q : Int) < (r1.length : Int) := by omega
    have hd : decide ((acc.size : Int) > 4096) = decide (acc.size > 4096) := decide_eq_decide.2 (by omega)
    simp only [h1, decide_false, cond_false, progR, progE, hd]
    cases decide (acc.size > 4096) <;> rfl
  | succ k ih =>
    intro q hq f acc hf ha
    obtain ⟨f, rfl⟩ : ∃ z, f = z + 1 := ⟨f - 1, by omega⟩
    have hlt : q < r1.length := by omega
    have h1 : (q : Int) < (r1.length : Int) := by omega
    have h2 : (0 : Int) ≤ (q : Int) := by omega
    have hR := hr _ (List.getElem_mem hlt)
    rw [show_Program_s5, List.drop_eq_getElem_cons hlt, wrap_succ (show q < big by unfold big; omega)]
    simp only [h1, h2, if_true, decide_true, cond_true, Int.toNat_natCast, getD_get hlt, show_Rule_r hn hR, obind_some]
    unfold progR
    have n100 : ((100 : Int) != 0) = true := rfl
    cases e : ruleR r1[q] with
    | none => simp only [outS, n100, cond_true, progE]
    | some s =>
      have a1 := ruleR_size hR e
      have c1 : (ByteArray.mk #[10]).size = 1 := rfl
      have z1 : (s ++ ByteArray.mk #[10]).size = s.size + (ByteArray.mk #[10]).size := ByteArray.size_append ..
      have z2 : (acc ++ (s ++ ByteArray.mk #[10])).size = acc.size + (s ++ ByteArray.mk #[10]).size := ByteArray.size_append ..
      simp only [outS, bne_self_eq_false, cond_false, show s.size + 1 < 4611686018427387904 by omega, show acc.size + (s ++ ByteArray.mk #[10]).size < 4611686018427387904 by omega, if_true]
      exact ih (q + 1) (by omega) f _ (by omega) (by omega)
theorem ref_prog_loop : ∀ k q : Nat, q + k = r1.length → ∀ f acc, k < f → acc.size ≤ 5000 * q → ref09_Program_l5 n b0 r1 f acc (q : Int) = some (progE (progR (r1.drop q) acc)) := by
  intro k
  induction k with
  | zero =>
    intro q hq f acc hf ha
    obtain ⟨f, rfl⟩ : ∃ z, f = z + 1 := ⟨f - 1, by omega⟩
    rw [ref09_Program_s5, List.drop_eq_nil_of_le (by omega)]
    have h1 : ¬ (q : Int) < (r1.length : Int) := by omega
    have hd : decide ((acc.size : Int) > 4096) = decide (acc.size > 4096) := decide_eq_decide.2 (by omega)
    simp only [h1, decide_false, cond_false, progR, progE, hd]
    cases decide (acc.size > 4096) <;> rfl
  | succ k ih =>
    intro q hq f acc hf ha
    obtain ⟨f, rfl⟩ : ∃ z, f = z + 1 := ⟨f - 1, by omega⟩
    have hlt : q < r1.length := by omega
    have h1 : (q : Int) < (r1.length : Int) := by omega
    have h2 : (0 : Int) ≤ (q : Int) := by omega
    have hR := hr _ (List.getElem_mem hlt)
    rw [ref09_Program_s5, List.drop_eq_getElem_cons hlt, wrap_succ (show q < big by unfold big; omega)]
    simp only [h1, h2, if_true, decide_true, cond_true, Int.toNat_natCast, getD_get hlt, ref_Rule_q hn hR, obind_some]
    unfold progR
    have n100 : ((100 : Int) != 0) = true := rfl
    cases e : ruleR r1[q] with
    | none => simp only [outS, n100, cond_true, progE]
    | some s =>
      have a1 := ruleR_size hR e
      have c1 : (ByteArray.mk #[10]).size = 1 := rfl
      have z1 : (s ++ ByteArray.mk #[10]).size = s.size + (ByteArray.mk #[10]).size := ByteArray.size_append ..
      have z2 : (acc ++ (s ++ ByteArray.mk #[10])).size = acc.size + (s ++ ByteArray.mk #[10]).size := ByteArray.size_append ..
      simp only [outS, bne_self_eq_false, cond_false, show s.size + 1 < 4611686018427387904 by omega, show acc.size + (s ++ ByteArray.mk #[10]).size < 4611686018427387904 by omega, if_true]
      exact ih (q + 1) (by omega) f _ (by omega) (by omega)
end
theorem progO_eq (l : Rows) : progO l = bif decide (l.length > 16) then ((noB, (81, ())), ()) else progE (progR l noB) := rfl
theorem show_Program_q {n : Nat} {b0 : Bool} {r1 : Rows} (hn : 10000 < n) (hr : ∀ r ∈ r1, RuleOk n r) : show_Program_v n b0 r1 = some (progO r1) := by
  rw [show_Program_e, progO_eq]
  have hd : decide ((r1.length : Int) > 16) = decide (r1.length > 16) := decide_eq_decide.2 (by omega)
  rw [hd]
  by_cases h : r1.length > 16
  · rw [decide_eq_true h]; rfl
  · rw [decide_eq_false h]
    exact show_prog_loop hn hr (by omega) r1.length 0 (by omega) n noB (by omega) (by decide)
theorem ref_Program_q {n : Nat} {b0 : Bool} {r1 : Rows} (hn : 10000 < n) (hr : ∀ r ∈ r1, RuleOk n r) : ref09_Program_v n b0 r1 = some (progO r1) := by
  rw [ref09_Program_e, progO_eq]
  have hd : decide ((r1.length : Int) > 16) = decide (r1.length > 16) := decide_eq_decide.2 (by omega)
  rw [hd]
  by_cases h : r1.length > 16
  · rw [decide_eq_true h]; rfl
  · rw [decide_eq_false h]
    exact ref_prog_loop hn hr (by omega) r1.length 0 (by omega) n noB (by omega) (by decide)
end Go.Den
