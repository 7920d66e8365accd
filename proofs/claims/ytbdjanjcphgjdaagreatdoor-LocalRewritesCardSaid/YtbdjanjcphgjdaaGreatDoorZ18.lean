import Derived.Test.YtbdjanjcphgjdaaGreatDoorZ17
set_option linter.unusedVariables false
set_option linter.unusedSimpArgs false
set_option linter.unusedSectionVars false
namespace Go.Den
open Go.Proofs
section
variable {n : Nat} {s0 : ByteArray} {b1 : Bool} {j2 : Int} {s3 s4 : ByteArray} {b5 : Bool} {r6 : Rows} {s7 : ByteArray} {b8 : Bool} {j9 : Int} {s10 : ByteArray} {b11 : Bool} {r12 : Rows}
theorem rbody_q (hn : 10000 < n) (hr : ∀ l ∈ r12, LitOk n l) (hl : r12.length ≤ 10) : ∀ k q : Nat, q + k = r12.length → ∀ f acc, k < f → acc.size ≤ 100000 + 1000 * q →
  z58_l10 n s0 b1 j2 s3 s4 b5 r6 s7 b8 j9 s10 b11 r12 f acc (q : Int) = some (outS (bodyR q (r12.drop q) acc)) := by
 intro k
 induction k with
 |zero =>
  intro q hq f acc hf ht
  obtain ⟨f, rfl⟩ : ∃ z, f = z + 1 := ⟨f - 1, by omega⟩
  rw [z58_s10, List.drop_eq_nil_of_le (by omega)]
  have h1 : ¬ (q : Int) < (r12.length : Int) := by omega
  simp only [h1, decide_false, cond_false, bodyR, show acc.size + 1 < 4611686018427387904 by omega, if_true]
  rfl
 |succ k ih =>
  intro q hq f acc hf ht
  obtain ⟨f, rfl⟩ : ∃ z, f = z + 1 := ⟨f - 1, by omega⟩
  have hlt : q < r12.length := by omega
  have h1 : (q : Int) < (r12.length : Int) := by omega
  have h2 : (0 : Int) ≤ (q : Int) := by omega
  have hL := hr _ (List.getElem_mem hlt)
  have hdec : decide ((q : Int) > 0) = decide (0 < q) := decide_eq_decide.2 (by omega)
  have hA : z36_v n (ByteArray.mk #[]) (Row.S r12[q] 0) (Row.B r12[q] 1) (Row.I r12[q] 2) (Row.S r12[q] 3) (ByteArray.mk #[32, 115, 97, 121, 115, 32]) = some (outM noB bSays (maybeR noB (tmAt r12[q] 0) bSays)) := by
   have := rmaybe_q (x := tmAt r12[q] 0) (a := noB) (b := bSays) hn hL.by_ (by decide) (by decide)
   exact this
  have hC : z36_v n (ByteArray.mk #[32, 97, 116, 32]) (Row.S r12[q] 6) (Row.B r12[q] 7) (Row.I r12[q] 8) (Row.S r12[q] 9) (ByteArray.mk #[]) = some (outM bAt noB (maybeR bAt (tmAt r12[q] 6) noB)) := by
   have := rmaybe_q (x := tmAt r12[q] 6) (a := bAt) (b := noB) hn hL.at_ (by decide) (by decide)
   exact this
  rw [z58_s10, List.drop_eq_getElem_cons hlt, wrap_succ (show q < big by unfold big; omega)]
  simp only [h1, h2, if_true, decide_true, cond_true, Int.toNat_natCast, getD_get hlt, hdec, hA, hC, ratom_q hn hL.args, obind_some]
  unfold bodyR litR
  cases e1 : maybeR noB (tmAt r12[q] 0) bSays with
  |none => rfl
  |some x =>
  have a1 := maybeR_size hL.by_ (by decide) (by decide) e1
  cases e2 : atomR (Row.S r12[q] 4) (Row.R r12[q] 5) with
  |none => rfl
  |some y =>
  have a2 := atomR_size hL.args e2
  cases e3 : maybeR bAt (tmAt r12[q] 6) noB with
  |none => rfl
  |some z =>
  have a3 := maybeR_size hL.at_ (by decide) (by decide) e3
  have c2 : (ByteArray.mk #[44, 32]).size = 2 := rfl
  have z1 : (x ++ y).size = x.size + y.size := ByteArray.size_append ..
  have z2 : (x ++ y ++ z).size = (x ++ y).size + z.size := ByteArray.size_append ..
  have z3 : (acc ++ ByteArray.mk #[44, 32]).size = acc.size + (ByteArray.mk #[44, 32]).size := ByteArray.size_append ..
  simp only [outM, outB, Bool.not_true, cond_false]
  cases hq0 : decide (0 < q) with
  |true =>
   simp only [cond_true, show acc.size + 2 < 4611686018427387904 by omega, show x.size + y.size < 4611686018427387904 by omega, show (x ++ y).size + z.size < 4611686018427387904 by omega, show (acc ++ ByteArray.mk #[44, 32]).size + (x ++ y ++ z).size < 4611686018427387904 by omega, if_true]
   have z4 : (acc ++ ByteArray.mk #[44, 32] ++ (x ++ y ++ z)).size = (acc ++ ByteArray.mk #[44, 32]).size + (x ++ y ++ z).size := ByteArray.size_append ..
   exact ih (q + 1) (by omega) f _ (by omega) (by omega)
  |false =>
   simp only [cond_false, show x.size + y.size < 4611686018427387904 by omega, show (x ++ y).size + z.size < 4611686018427387904 by omega, show acc.size + (x ++ y ++ z).size < 4611686018427387904 by omega, if_true]
   have z4 : (acc ++ (x ++ y ++ z)).size = acc.size + (x ++ y ++ z).size := ByteArray.size_append ..
   exact ih (q + 1) (by omega) f _ (by omega) (by omega)
end
theorem ref_Rule_q {n : Nat} {r : Row} (hn : 10000 < n) (h : RuleOk n r) : z58_v n (Row.S r 0) (Row.B r 1) (Row.I r 2) (Row.S r 3) (Row.S r 4) (Row.N r 5) (Row.R r 5) (Row.S r 6) (Row.B r 7) (Row.I r 8) (Row.S r 9) (Row.N r 10) (Row.R r 10) = some (outS (ruleR r)) := by
 rw [z58_e]
 unfold ruleR headR
 have d1 : decide (((Row.R r 10).length : Int) < 1) = decide ((Row.R r 10).length < 1) := decide_eq_decide.2 (by omega)
 have d2 : decide (((Row.R r 10).length : Int) > 4) = decide ((Row.R r 10).length > 4) := decide_eq_decide.2 (by omega)
 rw [d1, d2]
 by_cases h1 : (Row.R r 10).length < 1
 ·simp only [h1, decide_true, cond_true]; rfl
 by_cases h2 : (Row.R r 10).length > 4
 ·simp only [h1, h2, decide_true, decide_false, cond_true, cond_false]; rfl
 simp only [h1, h2, decide_false, cond_false]
 have hH : z48_v n (Row.S r 0) (Row.B r 1) (Row.I r 2) (Row.S r 3) = some (outS (term1 (tmAt r 0))) := ref_T1 rfl h.home hn
 have hM : z36_v n (ByteArray.mk #[32, 116, 111, 32]) (Row.S r 6) (Row.B r 7) (Row.I r 8) (Row.S r 9) (ByteArray.mk #[]) = some (outM bTo noB (maybeR bTo (tmAt r 6) noB)) := by
  have := rmaybe_q (x := tmAt r 6) (a := bTo) (b := noB) hn h.to_ (by decide) (by decide)
  exact this
 simp only [hH, hM, ratom_q hn h.args, obind_some]
 have n100 : ((100 : Int) != 0) = true := rfl
 cases e1 : term1 (tmAt r 0) with
 |none => simp only [outS, n100, cond_true]
 |some x =>
 have a1 := term1_size h.home.lo h.home.hi e1
 simp only [outS, bne_self_eq_false, cond_false]
 cases e2 : atomR (Row.S r 4) (Row.R r 5) with
 |none => rfl
 |some y =>
 have a2 := atomR_size h.args e2
 cases e3 : maybeR bTo (tmAt r 6) noB with
 |none => rfl
 |some z =>
 have a3 := maybeR_size h.to_ (by decide) (by decide) e3
 have c2 : bColon.size = 2 := rfl
 have c3 : bIf.size = 4 := rfl
 have z1 : (x ++ bColon).size = x.size + bColon.size := ByteArray.size_append ..
 have z2 : (x ++ bColon ++ y).size = (x ++ bColon).size + y.size := ByteArray.size_append ..
 have z3 : (x ++ bColon ++ y ++ z).size = (x ++ bColon ++ y).size + z.size := ByteArray.size_append ..
 have z4 : (x ++ bColon ++ y ++ z ++ bIf).size = (x ++ bColon ++ y ++ z).size + bIf.size := ByteArray.size_append ..
 simp only [outM, outB, Bool.not_true, cond_false]
 simp only [show x.size + 2 < 4611686018427387904 by omega, show (x ++ bColon).size + y.size < 4611686018427387904 by omega, show (x ++ bColon ++ y).size + z.size < 4611686018427387904 by omega, show (x ++ bColon ++ y ++ z).size + 4 < 4611686018427387904 by omega, if_true]
 have hf := rbody_q (n := n) (s0 := Row.S r 0) (b1 := Row.B r 1) (j2 := Row.I r 2) (s3 := Row.S r 3) (s4 := Row.S r 4) (b5 := Row.N r 5) (r6 := Row.R r 5) (s7 := Row.S r 6) (b8 := Row.B r 7) (j9 := Row.I r 8) (s10 := Row.S r 9) (b11 := Row.N r 10) (r12 := Row.R r 10)
  hn h.body (by omega) (Row.R r 10).length 0 (by omega) n (x ++ bColon ++ y ++ z ++ bIf) (by omega) (by omega)
 exact hf
section
variable {n : Nat} {b0 : Bool} {r1 : Rows} (hn : 10000 < n) (hr : ∀ r ∈ r1, RuleOk n r) (hl : r1.length ≤ 16)
include hn hr hl
end
end Go.Den
