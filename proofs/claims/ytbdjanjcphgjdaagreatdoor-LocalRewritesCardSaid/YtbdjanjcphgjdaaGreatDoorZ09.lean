import Derived.Test.YtbdjanjcphgjdaaGreatDoorZ08
import Derived.Test.YtbdjanjcphgjdaaGreatDoorZ03
set_option linter.unusedVariables false
set_option linter.unusedSimpArgs false
set_option linter.unusedSectionVars false
namespace Go.Den
open Go.Proofs
abbrev TokRes := Option (((Bool × Rows) × Int × Int × Unit) × Unit)
def tokRes (nl : Bool) (acc : Rows) : Except (Nat × Int) Rows → TokRes
 | .ok l => some (((nl && l.isEmpty, acc ++ l), (0, (0, ()))), ())
 | .error p => some (((true, []), ((p.1 : Int), (p.2, ()))), ())
section
variable {s : ByteArray} (hs : s.size < 1000000000)
include hs
theorem z63_loop {n : Nat} (hn : s.size < n) : ∀ k j, j ≤ s.size → s.size - j < k → ∀ i nl acc, s.size - j < i → acc.length + (s.size - j) < 1100000000 →
  z63_l4 n s i (j : Int) nl acc = tokRes nl acc (tokF s k j) := by
 have hb : s.size < big := by unfold big; omega
 intro k
 induction k with
 |zero => intro j _ h; omega
 |succ k ih =>
  intro j hj hk i nl acc hi hacc
  obtain ⟨i, rfl⟩ : ∃ z, i = z + 1 := ⟨i - 1, by omega⟩
  rw [z63_s4]
  unfold tokF
  by_cases hlt : j < s.size
  ·have h1 : (j : Int) < (s.size : Int) := by omega
   have h0 : (0 : Int) ≤ (j : Int) := by omega
   rw [if_pos hlt]
   simp only [h1, decide_true, cond_true]
   have ho := z93_q hb hn hlt
   cases hone : oneS s j with
   |none =>
    rw [hone] at ho
    obtain ⟨t, ht⟩ := ho
    rw [ht]; rfl
   |some t =>
    obtain ⟨kd, x, v, e⟩ := t
    rw [hone] at ho
    simp only at ho ⊢
    by_cases hx : x.size > 32
    ·rw [if_pos hx] at ho ⊢
     obtain ⟨t, ht⟩ := ho
     rw [ht]; rfl
    ·rw [if_neg hx] at ho ⊢
     have he := oneS_next hlt hone
     have hsk := skip_le (s := s) (j := e) he.2
     have hl : (acc.length + 1) * 40 ≤ 140737488355328 := by omega
     rw [ho]
     simp only [obind_some, bne_self_eq_false, cond_false, List.length_cons, List.length_nil, Nat.zero_add, hl, if_true, z89_q hb hn he.2, List.isEmpty_cons, Bool.and_false, appX]
     rw [ih (skip s e) hsk.2 (by omega) i false _ (by omega) (by simp only [List.length_append, List.length_cons, List.length_nil]; omega)]
     cases tokF s k (skip s e) with
     |ok l => simp [tokRes]
     |error p => rfl
  ·have h1 : ¬ (j : Int) < (s.size : Int) := by omega
   rw [if_neg hlt]
   simp only [h1, decide_false, cond_false, tokRes, List.isEmpty_nil, Bool.and_true, List.append_nil]
end
def tokensE (s : ByteArray) : Except (Nat × Int) Rows := if s.size > 4096 then .error (0, 3) else tokens s
theorem z63_q {n : Nat} {s : ByteArray} (hn : 5000 < n) : z63_v n s = tokRes true [] (tokensE s) := by
 rw [z63_e]
 unfold tokensE
 by_cases h : s.size > 4096
 ·have h1 : (s.size : Int) > 4096 := by omega
  rw [if_pos h]
  simp only [h1, decide_true, cond_true]; rfl
 ·have h1 : ¬ (s.size : Int) > 4096 := by omega
  have hsk := skip_le (s := s) (j := 0) (Nat.zero_le _)
  have hb : s.size < big := by unfold big; omega
  rw [if_neg h]
  simp only [h1, decide_false, cond_false]
  have h2 := z89_q hb (n := n) (j := 0) (by omega) (Nat.zero_le _)
  rw [show ((0 : Nat) : Int) = 0 from rfl] at h2
  rw [h2]
  exact z63_loop (by omega) (by omega) (s.size + 1) _ hsk.2 (by omega) n true [] (by omega) (by simp only [List.length_nil]; omega)
end Go.Den
