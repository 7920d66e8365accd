import Derived.Test.YtcpbnfnfmfaogaaD1g
import Derived.Test.YtcpbnfnfmfaogaaG04
set_option linter.unusedVariables false
set_option linter.unusedSimpArgs false
set_option linter.unusedSectionVars false
/- FactOwns. -/
namespace Go.Den
open Go.Proofs
theorem kbytes_kC : kbytes kC = 32 := by decide
theorem clone_const {n : Nat} {nl : Bool} {rows : Rows} (h : rows.length * 32 ≤ 140737488355328) (hw : nl = true → rows = []) : slices_Clone_v n nl rows = some ((nl, rows), ()) := by
  rw [slices_Clone_e]
  cases nl with
  | true => rw [hw rfl]; rfl
  | false =>
    simp only [cond_false, Nat.zero_add, h, if_true, appX, List.nil_append, Bool.false_and]
section
variable {n : Nat} {s0 s1 s5 s6 s7 : ByteArray} {b2 b8 : Bool} {r3 r9 : Rows}
theorem owns_loop (hn : 64 ≤ n) (h9 : r9.length < big) (h9n : r9.length < n) (hz : ordF (s5, s6, s7, r9) (s0, s0, s1, r3) = 0) : ∀ k q : Nat, ∀ r15 : Rows, q + k = r15.length → r15.length < big → ∀ f b14, k < f → b14 = false →
    law04_FactOwns_l4 n s0 s1 b2 r3 f s5 s6 s7 b8 r9 b14 r15 (q : Int) = some (true, ()) := by
  intro k
  induction k with
  | zero =>
    intro q r15 hq hb f b14 hf hb14
    obtain ⟨f, rfl⟩ : ∃ z, f = z + 1 := ⟨f - 1, by omega⟩
    rw [law04_FactOwns_s4]
    have h1 : ¬ ((q : Int) < (r15.length : Int)) := by omega
    simp only [h1, decide_false, cond_false, ref04_Order_q (n := n) (s0 := s5) (s1 := s6) (s2 := s7) (s5 := s0) (s6 := s0) (s7 := s1) (b3 := b8) (b8 := b2) (r4 := r9) (r9 := r3) h9 h9n, obind_some, hz, beq_self_eq_true, cond_true, live4_at hn]
  | succ k ih =>
    intro q r15 hq hb f b14 hf hb14
    obtain ⟨f, rfl⟩ : ∃ z, f = z + 1 := ⟨f - 1, by omega⟩
    subst hb14
    have hlt : q < r15.length := by omega
    have h1 : (q : Int) < (r15.length : Int) := by omega
    have h0 : (0 : Int) ≤ (q : Int) := by omega
    have he : r15.isEmpty = false := by cases r15 with | nil => simp at hlt | cons _ _ => rfl
    rw [law04_FactOwns_s4, wrap_succ (show q < big by omega)]
    simp only [h1, h0, decide_true, cond_true, if_true, Int.toNat_natCast, Nat.zero_add, hlt, law04_num_e, obind_some, he, Bool.or_self, cond_false, List.length_set, Nat.le_refl, List.drop_zero]
    refine ih (q + 1) _ ?_ ?_ f false (by omega) rfl
    · rw [List.length_take, List.length_set]; omega
    · rw [List.length_take, List.length_set]; omega
theorem law04_FactOwns_pure (s0 s1 : ByteArray) (b2 : Bool) (r3 : Rows) (_h0 : s0.size ≤ reachBytes) (_h1 : s1.size ≤ reachBytes) (h3 : Fsl b2 kC r3) : ∃ n, law04_FactOwns_v n s0 s1 b2 r3 = some (true, ()) := by
  refine ⟨2000 + r3.length, ?_⟩
  have l3 := h3.1
  have k3 := h3.2.2.2
  rw [kbytes_kC] at k3
  unfold reachBytes at l3 k3
  generalize hN : 2000 + r3.length = n
  rw [law04_FactOwns_e, fact_Own_e]
  have c1 : r3.length * 32 ≤ 140737488355328 := by omega
  have hc := clone_const (n := n) (nl := false) (rows := r3) c1 (fun h => by cases h)
  simp only [Nat.zero_add, c1, if_true, appX, List.nil_append, Bool.false_and, hc, obind_some]
  exact owns_loop (by omega) (by unfold big; omega) (by omega) (ordF_refl _) r3.length 0 r3 (by omega) (by unfold big; omega) n false (by omega) rfl
end
end Go.Den
