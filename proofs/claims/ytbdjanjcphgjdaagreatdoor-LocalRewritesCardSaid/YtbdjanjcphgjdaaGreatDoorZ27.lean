import Derived.Test.YtbdjanjcphgjdaaGreatDoorZ26
import Derived.Test.YtbdjanjcphgjdaaGreatDoorZ09
set_option linter.unusedVariables false
set_option linter.unusedSimpArgs false
set_option linter.unusedSectionVars false
namespace Go.Den
open Go.Proofs
set_option maxRecDepth 10000
theorem program_p (n : Nat) (hn : 20 ≤ n) {s : ByteArray} {nl : Bool} {tk : Rows} {at' e : Int} (h : z63_v n s = some (((nl, tk), at', e, ()), ())) :
  z14_v n s = some (encG (bif e != 0 then .error (at', e) else progP s.size tk)) := by
 rw [z14_e, h]
 simp only [obind_some]
 cases he : (e != 0) with
 |true => rfl
 |false =>
  simp only [cond_false]
  exact prog_l n (by omega) s _ _ 16 n nl tk _ true [] rfl (by omega) rfl
def parseE (s : ByteArray) : Except (Int × Int) Rows :=
 match tokensE s with
 | .ok l => progP s.size l
 | .error p => .error ((p.1 : Int), p.2)
theorem tokF_err (s : ByteArray) : ∀ k j p, tokF s k j = .error p → p.2 = 70 ∨ p.2 = 71
 |0, j, p, h => by cases h
 |k + 1, j, p, h => by
  unfold tokF at h
  split at h
  ·split at h
   ·cases h; exact .inl rfl
   ·split at h
    ·cases h; exact .inr rfl
    ·split at h
     ·cases h
     ·rename_i q hq; cases h; exact tokF_err s k _ _ hq
  ·cases h
theorem tokensE_err {s : ByteArray} {p : Nat × Int} (h : tokensE s = .error p) : (p.2 != 0) = true := by
 unfold tokensE at h
 split at h
 ·cases h; rfl
 ·rcases tokF_err s _ _ _ h with h | h <;> rw [h] <;> rfl
theorem program_pq {n : Nat} (hn : 5000 < n) (s : ByteArray) : z14_v n s = some (encG (parseE s)) := by
 have h := z63_q (s := s) hn
 unfold parseE
 rcases ht : tokensE s with p | l
 ·rw [ht] at h
  rw [program_p n (by omega) h]
  simp only [tokensE_err ht, cond_true]
 ·rw [ht] at h
  rw [program_p n (by omega) h]; rfl
end Go.Den
