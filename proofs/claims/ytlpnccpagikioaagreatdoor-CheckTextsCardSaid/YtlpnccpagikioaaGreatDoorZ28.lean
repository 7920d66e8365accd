import Derived.Test.YtlpnccpagikioaaGreatDoorZ27
set_option linter.unusedVariables false
set_option linter.unusedSimpArgs false
set_option linter.unusedSectionVars false
namespace Go.Den
open Go.Proofs
def shiftTok (d : Nat) (r : Row) : Row := tokRow (Row.I r 0) (Row.S r 1) (Row.I r 2) ((Row.I r 3).toNat + d)
theorem oneS_shift {u b : ByteArray} {j : Nat} (hj : j < b.size) : oneS (u ++ b) (u.size + j) = (oneS b j).map fun t => (t.1, t.2.1, t.2.2.1, u.size + t.2.2.2) := by
  unfold oneS
  have hsz := app_size u b
  have ld := over_le (p := isDigit) (s := b) (j := j + 1) (by omega)
  have a1 : u.size + j + 1 = u.size + (j + 1) := by omega
  have a2 : u.size + j + 2 = u.size + (j + 2) := by omega
  have d1 : decide (u.size + over isPlain b (j + 1) < (u ++ b).size) = decide (over isPlain b (j + 1) < b.size) := decide_eq_decide.2 (by omega)
  have d2 : decide (u.size + (j + 1) < (u ++ b).size) = decide (j + 1 < b.size) := decide_eq_decide.2 (by omega)
  rw [a1, a2, over_shift (p := isInner) (by omega), over_shift (p := isDigit) (j := j + 1) (by omega), over_shift (p := isPlain) (j := j + 1) (by omega), bt_app2, bt_app2, bt_app2, d1, d2, ext_app2, ext_app2, ext_app2, ext_app2,
    numS_congr (s := u ++ b) (t := b) (a := u.size + j) (a' := j) (e := u.size + over isDigit b (j + 1)) (e' := over isDigit b (j + 1)) (by omega) (by omega) (by omega) (fun i hi => by rw [show u.size + j + i = u.size + (j + i) from by omega, bt_app2])]
  cases isSmall (bt b (j : Int)) with
  | true => rfl
  | false =>
  cases isGreat (bt b (j : Int)) with
  | true => rfl
  | false =>
  cases (isDigit (bt b (j : Int)) || bt b (j : Int) == 45) with
  | true => simp only [cond_true, cond_false]; cases numS b j (over isDigit b (j + 1)) <;> rfl
  | false =>
  simp only [cond_false]
  cases bt b (j : Int) == 34 with
  | true =>
    simp only [cond_true]
    cases (decide (over isPlain b (j + 1) < b.size) && bt b ((over isPlain b (j + 1) : Nat) : Int) == 34) <;> rfl
  | false =>
  simp only [cond_false]
  cases (bt b (j : Int) == 58 && (decide (j + 1 < b.size) && bt b ((j + 1 : Nat) : Int) == 45)) with
  | true => rfl
  | false =>
  simp only [cond_false]
  cases (bt b (j : Int) == 40 || (bt b (j : Int) == 41 || (bt b (j : Int) == 44 || (bt b (j : Int) == 46 || bt b (j : Int) == 58)))) <;> rfl
def shiftE (d : Nat) : Except (Nat × Int) Rows → Except (Nat × Int) Rows
  | .ok l => .ok (l.map (shiftTok d))
  | .error p => .error (p.1 + d, p.2)
theorem tokF_shift {u b : ByteArray} : ∀ k j, j ≤ b.size → tokF (u ++ b) k (u.size + j) = shiftE u.size (tokF b k j)
  | 0, j, hj => rfl
  | k + 1, j, hj => by
    have hsz := app_size u b
    unfold tokF
    by_cases hlt : j < b.size
    · rw [if_pos hlt, if_pos (by omega), oneS_shift hlt]
      cases ho : oneS b j with
      | none => simp only [Option.map_none, shiftE]; rw [Nat.add_comm]
      | some t =>
        obtain ⟨kd, x, v, e⟩ := t
        have he := oneS_next hlt ho
        simp only [Option.map_some]
        by_cases hx : x.size > 32
        · rw [if_pos hx, if_pos hx]; simp only [shiftE]; rw [Nat.add_comm]
        · rw [if_neg hx, if_neg hx, skip_shift, tokF_shift k (skip b e) (skip_le he.2).2]
          cases tokF b k (skip b e) with
          | ok l =>
            simp only [shiftE, List.map_cons]
            congr 2
            show _ = tokRow kd x v (((j : Int)).toNat + u.size)
            rw [Int.toNat_natCast, Nat.add_comm]
          | error p => rfl
    · rw [if_neg hlt, if_neg (by omega)]; rfl
end Go.Den
