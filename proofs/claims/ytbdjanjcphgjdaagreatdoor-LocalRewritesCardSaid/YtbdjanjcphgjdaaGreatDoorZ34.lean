import Derived.Test.YtbdjanjcphgjdaaGreatDoorZ33
set_option linter.unusedVariables false
set_option linter.unusedSimpArgs false
set_option linter.unusedSectionVars false
namespace Go.Den
open Go.Proofs
set_option maxRecDepth 20000
set_option linter.unusedVariables false
def live13T : ByteArray := ByteArray.mk #[65, 58, 32, 112, 40, 88, 41, 32, 58, 45, 32, 113, 40, 66, 41, 44, 32, 114, 40, 88, 41, 32, 97, 116, 32, 66, 46]
def live13D : List RuleD := rewL ((rowsOf' live13T).map ruleD) 0
theorem live13_ok : (match parseE live13T with | .ok _ => true | .error _ => false) = true := by kernel_rfl
theorem live13_rules : rulesB (rowsOf' live13T) = true := by kernel_rfl
theorem live13_prog : (progC (rowsOf' live13T)).1 = 0 := by kernel_rfl
theorem live13_len : (rowsOf' live13T).length = 1 := by kernel_rfl
theorem live13_three : live13D.length = 3 := by kernel_rfl
theorem relay_a {n : Nat} : z35_v n (ByteArray.mk #[126, 120]) = some (true, ()) := by
 rw [z35_e, z5_e, z0_e]; kernel_rfl
theorem relay_b {n : Nat} : z35_v n (ByteArray.mk #[120]) = some (false, ()) := by
 rw [z35_e, z5_e, z0_e]; kernel_rfl
theorem live13_q {n : Nat} (hn : 2000000 < n) : z51_v n = some (true, ()) := by
 rw [z51_e, show (ByteArray.mk #[65, 58, 32, 112, 40, 88, 41, 32, 58, 45, 32, 113, 40, 66, 41, 44, 32, 114, 40, 88, 41, 32, 97, 116, 32, 66, 46]) = live13T from rfl, program_pq (by omega)]
 have h1 := live13_ok
 have h2 := live13_rules
 have h3 := live13_prog
 have h4 := live13_len
 have h5 := live13_three
 have k0 : (live13D.getD 0 (zeroT, noS, [], zeroT, [])).2.1 = ByteArray.mk #[126, 97, 115, 107, 48, 46, 49] := by kernel_rfl
 have k1 : (live13D.getD 1 (zeroT, noS, [], zeroT, [])).1.1 = ByteArray.mk #[66] := by kernel_rfl
 have k2 : (live13D.getD 2 (zeroT, noS, [], zeroT, [])).2.2.2.2.length = 1 := by kernel_rfl
 have k3 : ((live13D.getD 2 (zeroT, noS, [], zeroT, [])).2.2.2.2.getD 0 (zeroT, noS, [], zeroT)).1.1 = ByteArray.mk #[66] := by kernel_rfl
 unfold live13D at h5 k0 k1 k2 k3
 unfold rowsOf' at h2 h3 h4 h5 k0 k1 k2 k3
 cases hp : parseE live13T with
 |error e => rw [hp] at h1; cases h1
 |ok l =>
  rw [hp] at h2 h3 h4 h5 k0 k1 k2 k3
  simp only at h2 h3 h4 h5 k0 k1 k2 k3
  simp only [obind, encG]
  rcases Rewrite_q (n := n) (r1 := l) (b0 := l.isEmpty) hn (by omega) (rulesB_ok (by omega) h2) with ⟨c, rows, _, g1, g2⟩ | ⟨g0, _⟩
  ·rw [g1]
   rw [← g2] at h5 k0 k1 k2 k3
   rw [List.length_map] at h5
   match rows, h5 with
   |[a, b, d], _ =>
    have e0 : Row.S a 4 = ByteArray.mk #[126, 97, 115, 107, 48, 46, 49] := k0
    have e1 : Row.S b 0 = ByteArray.mk #[66] := k1
    have e2 : ((Row.R d 10).map litD).length = 1 := k2
    rw [List.length_map] at e2
    have e3 : (((Row.R d 10).map litD).getD 0 (zeroT, noS, [], zeroT)).1.1 = ByteArray.mk #[66] := k3
    have e4 : Row.S ((Row.R d 10).getD 0 []) 0 = ByteArray.mk #[66] := by
     match hd : Row.R d 10, e2 with
     |[x], _ => rw [hd] at e3; exact e3
    simp only [List.getD_cons_zero, List.getD_cons_succ, e0, e1, e2, e4, relay_a, relay_b, List.length_cons, List.length_nil]
    rfl
  ·exact absurd h3 g0
end Go.Den
