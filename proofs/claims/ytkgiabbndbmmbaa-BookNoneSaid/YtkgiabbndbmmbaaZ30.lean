import Derived.Test.YtkgiabbndbmmbaaZ29
set_option linter.unusedVariables false
set_option linter.unusedSimpArgs false
set_option linter.unusedSectionVars false
namespace Go.Den
open Go.Proofs
theorem obind_eq {α β : Type} {x : Option α} {a : α} {f : α → Option β} {r : Option β} (h : x = some a) (h2 : f a = r) : obind x f = r := by rw [h]; exact h2
theorem cond_eqT {α : Type} {c : Bool} {x y r : Option α} (h : c = true) (h2 : x = r) : (bif c then x else y) = r := by rw [h]; exact h2
theorem cond_eqF {α : Type} {c : Bool} {x y r : Option α} (h : c = false) (h2 : y = r) : (bif c then x else y) = r := by rw [h]; exact h2
theorem live_len (k : Nat) : z35_v (k + 64) false [d1, d2] true = some (2, (((false, [d1, d2]), (true, ())), ())) := by kernel_rfl
theorem live16 {n : Nat} (hn : 1064 ≤ n) : z45_v n = some (true, ()) := by
 obtain ⟨k, rfl⟩ : ∃ k, n = k + 64 := ⟨n - 64, by omega⟩
 obtain ⟨b1, f1⟩ := live_f1 (n := k + 64) (by omega)
 obtain ⟨b2, r2, f2, f3⟩ := live_f2 (n := k + 64) (by omega)
 refine (z45_e _).trans (obind_eq (z48_e _) (obind_eq (z49_e _ _) (obind_eq (z49_e _ _) (obind_eq (live_a1 k) (obind_eq (z49_e _ _) (obind_eq (z49_e _ _) (obind_eq (live_a2 k) ?_)))))))
 refine cond_eqT rfl (cond_eqT rfl (obind_eq (live_len k) (cond_eqT rfl (obind_eq f1 (cond_eqT rfl (obind_eq (z49_e _ _) (obind_eq f2 ?_)))))))
 refine cond_eqT ?_ (obind_eq (z49_e _ _) (obind_eq (live_o k) rfl))
 simp only [f3]
 rfl
end Go.Den
