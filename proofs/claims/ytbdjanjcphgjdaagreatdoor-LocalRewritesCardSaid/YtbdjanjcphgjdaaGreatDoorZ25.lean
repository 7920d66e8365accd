import Derived.Test.YtbdjanjcphgjdaaGreatDoorZ24
import Derived.KernelRfl
set_option linter.unusedVariables false
set_option linter.unusedSimpArgs false
set_option linter.unusedSectionVars false
namespace Go.Den
open Go.Proofs
set_option maxRecDepth 10000
def l0 : L10 := (ByteArray.mk #[], false, 0, ByteArray.mk #[], ByteArray.mk #[], (true, []), ByteArray.mk #[], false, 0, ByteArray.mk #[], ())
def r0 : R11 := (ByteArray.mk #[], false, 0, ByteArray.mk #[], ByteArray.mk #[], (true, []), ByteArray.mk #[], false, 0, ByteArray.mk #[], (true, []), ())
theorem litB_p (n : Nat) (hn : 5 ≤ n) (t : T4) (b : Bool) (r : Rows) (j : Int) : (
 obind (z98_v n b r j) fun y6 =>
 bif y6.fst then
  some (true, Sh.dflt (.agg [.s, .b, .i IntKind.i64, .s, .s, .sl [Kd.s, Kd.b, Kd.i IntKind.i64, Kd.s], .s, .b, .i IntKind.i64, .s]), (y6.snd.snd.fst.fst, (y6.snd.snd.fst.snd.fst, ())), (((y6.snd.snd.snd.fst.fst.fst, y6.snd.snd.snd.fst.fst.snd), (y6.snd.snd.snd.fst.snd.fst, ())), ()))
 else obind (z100_v n y6.snd.snd.snd.fst.fst.fst y6.snd.snd.snd.fst.fst.snd y6.snd.snd.snd.fst.snd.fst) fun y7 =>
 bif y7.fst then
  some (true, Sh.dflt (.agg [.s, .b, .i IntKind.i64, .s, .s, .sl [Kd.s, Kd.b, Kd.i IntKind.i64, Kd.s], .s, .b, .i IntKind.i64, .s]), (y7.snd.snd.fst.fst, (y7.snd.snd.fst.snd.fst, ())), (((y7.snd.snd.snd.fst.fst.fst, y7.snd.snd.snd.fst.fst.snd), (y7.snd.snd.snd.fst.snd.fst, ())), ()))
 else obind (z99_v n (ByteArray.mk #[97, 116]) y7.snd.snd.snd.fst.fst.fst y7.snd.snd.snd.fst.fst.snd y7.snd.snd.snd.fst.snd.fst) fun y8 =>
 bif y8.fst then
  obind (z92_v n y8.snd.fst.fst.fst y8.snd.fst.fst.snd y8.snd.fst.snd.fst) fun y9 =>
  bif y9.fst then
   some (true, Sh.dflt (.agg [.s, .b, .i IntKind.i64, .s, .s, .sl [Kd.s, Kd.b, Kd.i IntKind.i64, Kd.s], .s, .b, .i IntKind.i64, .s]), (y9.snd.snd.fst.fst, (y9.snd.snd.fst.snd.fst, ())), (((y9.snd.snd.snd.fst.fst.fst, y9.snd.snd.snd.fst.fst.snd), (y9.snd.snd.snd.fst.snd.fst, ())), ()))
  else some (false, (t.fst, (t.snd.fst, (t.snd.snd.fst, (t.snd.snd.snd.fst, (y6.snd.fst, ((y7.snd.fst.fst, y7.snd.fst.snd), (y9.snd.fst.fst, (y9.snd.fst.snd.fst, (y9.snd.fst.snd.snd.fst, (y9.snd.fst.snd.snd.snd.fst, ())))))))))), Sh.dflt (.ifc 79 (.agg [.i IntKind.i64, .i IntKind.i64])), (((y9.snd.snd.snd.fst.fst.fst, y9.snd.snd.snd.fst.fst.snd), (y9.snd.snd.snd.fst.snd.fst, ())), ()))
 else some (false, (t.fst, (t.snd.fst, (t.snd.snd.fst, (t.snd.snd.snd.fst, (y6.snd.fst, ((y7.snd.fst.fst, y7.snd.fst.snd), (ByteArray.mk #[], (false, (0, (ByteArray.mk #[], ())))))))))), Sh.dflt (.ifc 79 (.agg [.i IntKind.i64, .i IntKind.i64])), (((y8.snd.fst.fst.fst, y8.snd.fst.fst.snd), (y8.snd.fst.snd.fst, ())), ()))) = some (encP l0 b j (litB t j r)) := by
 rw [word_p]
 unfold litB
 rcases wordP j r with ⟨x, e, r'⟩ | ⟨p, r1⟩
 ·kernel_rfl
 simp only [encP_ok, obind_some, cond_false, bnd_ok, args_p n hn]
 rcases argsP j r1 with ⟨x, e, r'⟩ | ⟨a, r2⟩
 ·kernel_rfl
 simp only [bnd_ok, encP_ok, obind_some, cond_false, pass_p]
 cases hc : isS sAt r2 with
 |false => kernel_rfl
 |true =>
  simp only [cond_true, tailIf, term_p]
  rcases termP j r2.tail with ⟨x, e, r'⟩ | ⟨p, r1⟩ <;> kernel_rfl
theorem litA_p (n : Nat) (hn : 5 ≤ n) (b : Bool) (r : Rows) (j : Int) : (
 obind (z92_v n b r j) fun y4 =>
 bif y4.fst then
  some (true, Sh.dflt (.agg [.s, .b, .i IntKind.i64, .s, .s, .sl [Kd.s, Kd.b, Kd.i IntKind.i64, Kd.s], .s, .b, .i IntKind.i64, .s]), (y4.snd.snd.fst.fst, (y4.snd.snd.fst.snd.fst, ())), (((y4.snd.snd.snd.fst.fst.fst, y4.snd.snd.snd.fst.fst.snd), (y4.snd.snd.snd.fst.snd.fst, ())), ()))
 else obind (z94_v n (ByteArray.mk #[115, 97, 121, 115]) y4.snd.snd.snd.fst.fst.fst y4.snd.snd.snd.fst.fst.snd y4.snd.snd.snd.fst.snd.fst) fun y5 =>
 bif y5.fst then
  some (true, Sh.dflt (.agg [.s, .b, .i IntKind.i64, .s, .s, .sl [Kd.s, Kd.b, Kd.i IntKind.i64, Kd.s], .s, .b, .i IntKind.i64, .s]), (y5.snd.snd.fst.fst, (y5.snd.snd.fst.snd.fst, ())), (((y5.snd.snd.snd.fst.fst.fst, y5.snd.snd.snd.fst.fst.snd), (y5.snd.snd.snd.fst.snd.fst, ())), ()))
 else obind (z98_v n y5.snd.snd.snd.fst.fst.fst y5.snd.snd.snd.fst.fst.snd y5.snd.snd.snd.fst.snd.fst) fun y6 =>
 bif y6.fst then
  some (true, Sh.dflt (.agg [.s, .b, .i IntKind.i64, .s, .s, .sl [Kd.s, Kd.b, Kd.i IntKind.i64, Kd.s], .s, .b, .i IntKind.i64, .s]), (y6.snd.snd.fst.fst, (y6.snd.snd.fst.snd.fst, ())), (((y6.snd.snd.snd.fst.fst.fst, y6.snd.snd.snd.fst.fst.snd), (y6.snd.snd.snd.fst.snd.fst, ())), ()))
 else obind (z100_v n y6.snd.snd.snd.fst.fst.fst y6.snd.snd.snd.fst.fst.snd y6.snd.snd.snd.fst.snd.fst) fun y7 =>
 bif y7.fst then
  some (true, Sh.dflt (.agg [.s, .b, .i IntKind.i64, .s, .s, .sl [Kd.s, Kd.b, Kd.i IntKind.i64, Kd.s], .s, .b, .i IntKind.i64, .s]), (y7.snd.snd.fst.fst, (y7.snd.snd.fst.snd.fst, ())), (((y7.snd.snd.snd.fst.fst.fst, y7.snd.snd.snd.fst.fst.snd), (y7.snd.snd.snd.fst.snd.fst, ())), ()))
 else obind (z99_v n (ByteArray.mk #[97, 116]) y7.snd.snd.snd.fst.fst.fst y7.snd.snd.snd.fst.fst.snd y7.snd.snd.snd.fst.snd.fst) fun y8 =>
 bif y8.fst then
  obind (z92_v n y8.snd.fst.fst.fst y8.snd.fst.fst.snd y8.snd.fst.snd.fst) fun y9 =>
  bif y9.fst then
   some (true, Sh.dflt (.agg [.s, .b, .i IntKind.i64, .s, .s, .sl [Kd.s, Kd.b, Kd.i IntKind.i64, Kd.s], .s, .b, .i IntKind.i64, .s]), (y9.snd.snd.fst.fst, (y9.snd.snd.fst.snd.fst, ())), (((y9.snd.snd.snd.fst.fst.fst, y9.snd.snd.snd.fst.fst.snd), (y9.snd.snd.snd.fst.snd.fst, ())), ()))
  else some (false, (y4.snd.fst.fst, (y4.snd.fst.snd.fst, (y4.snd.fst.snd.snd.fst, (y4.snd.fst.snd.snd.snd.fst, (y6.snd.fst, ((y7.snd.fst.fst, y7.snd.fst.snd), (y9.snd.fst.fst, (y9.snd.fst.snd.fst, (y9.snd.fst.snd.snd.fst, (y9.snd.fst.snd.snd.snd.fst, ())))))))))), Sh.dflt (.ifc 79 (.agg [.i IntKind.i64, .i IntKind.i64])), (((y9.snd.snd.snd.fst.fst.fst, y9.snd.snd.snd.fst.fst.snd), (y9.snd.snd.snd.fst.snd.fst, ())), ()))
 else some (false, (y4.snd.fst.fst, (y4.snd.fst.snd.fst, (y4.snd.fst.snd.snd.fst, (y4.snd.fst.snd.snd.snd.fst, (y6.snd.fst, ((y7.snd.fst.fst, y7.snd.fst.snd), (ByteArray.mk #[], (false, (0, (ByteArray.mk #[], ())))))))))), Sh.dflt (.ifc 79 (.agg [.i IntKind.i64, .i IntKind.i64])), (((y8.snd.fst.fst.fst, y8.snd.fst.fst.snd), (y8.snd.fst.snd.fst, ())), ()))) = some (encP l0 b j (bnd (termP j r) fun t r => bnd (mustP sSays j r) fun _ r => litB t j r)) := by
 rw [term_p]
 rcases termP j r with ⟨x, e, r'⟩ | ⟨t, r1⟩
 ·kernel_rfl
 simp only [encP_ok, obind_some, cond_false, bnd_ok, must_p]
 rcases mustP sSays j r1 with ⟨x, e, r'⟩ | ⟨_, r2⟩
 ·kernel_rfl
 simp only [encP_ok, obind_some, cond_false, bnd_ok]
 exact litB_p n hn t b r2 j
theorem litB0_p (n : Nat) (hn : 5 ≤ n) (b : Bool) (r : Rows) (j : Int) : (
 obind (z98_v n b r j) fun y36 =>
 bif y36.fst then
  some (true, Sh.dflt (.agg [.s, .b, .i IntKind.i64, .s, .s, .sl [Kd.s, Kd.b, Kd.i IntKind.i64, Kd.s], .s, .b, .i IntKind.i64, .s]), (y36.snd.snd.fst.fst, (y36.snd.snd.fst.snd.fst, ())), (((y36.snd.snd.snd.fst.fst.fst, y36.snd.snd.snd.fst.fst.snd), (y36.snd.snd.snd.fst.snd.fst, ())), ()))
 else obind (z100_v n y36.snd.snd.snd.fst.fst.fst y36.snd.snd.snd.fst.fst.snd y36.snd.snd.snd.fst.snd.fst) fun y37 =>
 bif y37.fst then
  some (true, Sh.dflt (.agg [.s, .b, .i IntKind.i64, .s, .s, .sl [Kd.s, Kd.b, Kd.i IntKind.i64, Kd.s], .s, .b, .i IntKind.i64, .s]), (y37.snd.snd.fst.fst, (y37.snd.snd.fst.snd.fst, ())), (((y37.snd.snd.snd.fst.fst.fst, y37.snd.snd.snd.fst.fst.snd), (y37.snd.snd.snd.fst.snd.fst, ())), ()))
 else obind (z99_v n (ByteArray.mk #[97, 116]) y37.snd.snd.snd.fst.fst.fst y37.snd.snd.snd.fst.fst.snd y37.snd.snd.snd.fst.snd.fst) fun y38 =>
 bif y38.fst then
  obind (z92_v n y38.snd.fst.fst.fst y38.snd.fst.fst.snd y38.snd.fst.snd.fst) fun y39 =>
  bif y39.fst then
   some (true, Sh.dflt (.agg [.s, .b, .i IntKind.i64, .s, .s, .sl [Kd.s, Kd.b, Kd.i IntKind.i64, Kd.s], .s, .b, .i IntKind.i64, .s]), (y39.snd.snd.fst.fst, (y39.snd.snd.fst.snd.fst, ())), (((y39.snd.snd.snd.fst.fst.fst, y39.snd.snd.snd.fst.fst.snd), (y39.snd.snd.snd.fst.snd.fst, ())), ()))
  else some (false, (ByteArray.mk #[], (false, (0, (ByteArray.mk #[], (y36.snd.fst, ((y37.snd.fst.fst, y37.snd.fst.snd), (y39.snd.fst.fst, (y39.snd.fst.snd.fst, (y39.snd.fst.snd.snd.fst, (y39.snd.fst.snd.snd.snd.fst, ())))))))))), Sh.dflt (.ifc 79 (.agg [.i IntKind.i64, .i IntKind.i64])), (((y39.snd.snd.snd.fst.fst.fst, y39.snd.snd.snd.fst.fst.snd), (y39.snd.snd.snd.fst.snd.fst, ())), ()))
 else some (false, (ByteArray.mk #[], (false, (0, (ByteArray.mk #[], (y36.snd.fst, ((y37.snd.fst.fst, y37.snd.fst.snd), (ByteArray.mk #[], (false, (0, (ByteArray.mk #[], ())))))))))), Sh.dflt (.ifc 79 (.agg [.i IntKind.i64, .i IntKind.i64])), (((y38.snd.fst.fst.fst, y38.snd.fst.fst.snd), (y38.snd.fst.snd.fst, ())), ()))) = some (encP l0 b j (litB t0 j r)) := litB_p n hn t0 b r j
theorem literal_p (n : Nat) (hn : 5 ≤ n) (b : Bool) (r : Rows) (j : Int) : z57_v n b r j = some (encP l0 b j (litP j r)) := by
 have hA := litA_p n hn b r j
 have hB := litB0_p n hn b r j
 rw [z57_e, next_p]
 simp only [obind_some]
 unfold litP said
 by_cases h1 : ((r.length : Nat) : Int) > 1
 ·rw [decide_eq_true h1, if_pos h1, if_pos h1]
  simp only [cond_true, Bool.true_and, bne]
  cases (Row.I (List.getD r 1 []) 0 == 1) <;> cases (Row.S (List.getD r 1 []) 1 == sSays) <;> cases (kd r == 1) <;>
   simp only [Bool.not_true, Bool.not_false, cond_true, cond_false, Bool.and_true, Bool.and_false, Bool.or_true, Bool.or_false, Bool.true_or, Bool.false_or] <;> first | (with_reducible exact hA) | (with_reducible exact hB)
 ·rw [decide_eq_false h1]
  simp only [cond_false, Bool.false_and, bne]
  cases (kd r == 1) <;> simp only [Bool.not_true, Bool.not_false, cond_true, cond_false, Bool.and_true, Bool.and_false, Bool.or_true, Bool.or_false, Bool.true_or, Bool.false_or] <;> first | (with_reducible exact hA) | (with_reducible exact hB)
theorem litP_nb {j : Int} {r : Rows} (h : beg r = false) : ∃ e, litP j r = .error e := by
 unfold litP
 cases hc : (said r || kd r != 1) with
 |true => exact ⟨_, by rw [cond_true, termP_f h]; rfl⟩
 |false =>
  simp only [Bool.or_eq_false_iff, bne, Bool.not_eq_false'] at hc
  have hk : kept (tx r) = true := by
   unfold beg at h
   simp only [hc.2, Bool.true_and, Bool.or_eq_false_iff, Bool.not_eq_false'] at h
   exact h.1.2
  refine ⟨_, by rw [cond_false]; unfold litB wordP; rw [hk, Bool.not_true, Bool.and_false, cond_false]; rfl⟩
theorem body_l (n : Nat) (hn : 5 ≤ n) (b0 : Bool) (r0' : Rows) (j0 : Int) (h : T4) (p : ByteArray) (al : Bool) (a : Rows) (to : T4) : ∀ (k i : Nat) (b : Bool) (r : Rows) (j : Int) (nl : Bool) (acc : Rows), acc.length + k = 4 → k < i →
  z96_l8 n b0 r0' j0 i b r j h.1 h.2.1 h.2.2.1 h.2.2.2.1 p al a to.1 to.2.1 to.2.2.1 to.2.2.2.1 nl acc = some (encP r0 b j (bnd (bodyL (k + 1) j r acc) fun bd r => .ok ((h.1, h.2.1, h.2.2.1, h.2.2.2.1, p, (al, a), to.1, to.2.1, to.2.2.1, to.2.2.2.1, (bd.isEmpty, bd), ()), r))) := by
 intro k
 induction k with
 |zero =>
  intro i b r j nl acc hk hi
  obtain ⟨i, rfl⟩ : ∃ q, i = q + 1 := ⟨i - 1, by omega⟩
  rw [z96_s8, begins_p]
  simp only [obind_some, fail_p, bodyL]
  have hl : (((acc.length : Nat) : Int) == 4) = true := by simp; omega
  have hl' : (acc.length == 4) = true := by simp; omega
  cases hb : beg r with
  |true => simp only [hl, hl', Bool.and_self, cond_true]; rfl
  |false =>
   obtain ⟨e, hl⟩ := litP_nb (j := j) hb
   simp only [cond_false, Bool.false_and, literal_p n hn, hl]
   rfl
 |succ k ih =>
  intro i b r j nl acc hk hi
  obtain ⟨i, rfl⟩ : ∃ q, i = q + 1 := ⟨i - 1, by omega⟩
  rw [z96_s8, begins_p]
  simp only [obind_some, fail_p]
  unfold bodyL
  have hl : (((acc.length : Nat) : Int) == 4) = false := by simp; omega
  have hl' : (acc.length == 4) = false := by simp; omega
  cases hb : beg r
  all_goals
   simp only [hl, hl', Bool.and_false, Bool.false_and, cond_true, cond_false, literal_p n hn, obind_some]
   rcases hlit : litP j r with ⟨x, e, r'⟩ | ⟨x, r1⟩
   ·rfl
   simp only [encP_ok, obind_some, cond_false, bnd_ok, pass_p]
   rw [if_pos (small_app (by omega) (by omega))]
   cases hc : isS sDot r1 with
   |true =>
    simp only [cond_true, bnd_ok, encP_ok, app_isEmpty, List.isEmpty_cons, Bool.and_false]
    rfl
   |false =>
    simp only [cond_false, tailIf, must_p]
    cases hm : isS sComma r1 with
    |false => rw [mustP_f hm]; rfl
    |true =>
     rw [mustP_t hm]
     simp only [encP_ok, obind_some, cond_false, bnd_ok]
     exact ih i b _ j _ _ (by simp; omega) (by omega)
end Go.Den
