import Derived.Test.YtbdjanjcphgjdaaGreatDoorZ20
set_option linter.unusedVariables false
set_option linter.unusedSimpArgs false
set_option linter.unusedSectionVars false
namespace Go.Den
open Go.Proofs
section
variable {n : Nat} {b0 : Bool} {r1 : Rows}
theorem copy_in (hn : r1.length < n) {j : Nat} (hj : j < r1.length) (hin : (Row.R r1[j] 10).length < n) (hb : (Row.R r1[j] 10).length ≤ 1000) (hb1 : r1.length ≤ 1000)
  (ha : ∀ l ∈ Row.R r1[j] 10, (Row.R l 5).length ≤ 1000) (hl : ∀ l ∈ Row.R r1[j] 10, 5 < l.length) {i0 : Nat} {nl : Bool} {r8 : Rows} (h8 : r8.length = j) :
  ∀ k q : Nat, q + k = (Row.R r1[j] 10).length → ∀ i, k < i →
  z52_l9 n b0 r1 i0 i (q : Int) (((Row.R r1[j] 10).take q).map copyLit ++ (Row.R r1[j] 10).drop q) nl r8 (j : Int) (Row.S r1[j] 0) (Row.B r1[j] 1) (Row.I r1[j] 2) (Row.S r1[j] 3) (Row.S r1[j] 4) (false && List.isEmpty (Row.R r1[j] 5)) (appX [] (Row.R r1[j] 5)) (Row.S r1[j] 6) (Row.B r1[j] 7) (Row.I r1[j] 8) (Row.S r1[j] 9) (Row.R r1[j] 10).length (Row.R r1[j] 10).length
  = z52_l3 n b0 r1 i0 (nl && false) (r8 ++ [copyRule r1[j]]) ((j + 1 : Nat) : Int) := by
 intro k
 induction k with
 |zero =>
  intro q hq i hi
  obtain ⟨i, rfl⟩ : ∃ m, i = m + 1 := ⟨i - 1, by omega⟩
  rw [z52_s9, List.drop_eq_nil_of_le (by omega), List.take_of_length_le (by omega), List.append_nil, wrap_succ (show j < big by unfold big; omega)]
  have h1 : ¬ (q : Int) < ((Row.R r1[j] 10).length : Int) := by omega
  have h2 : 0 + (Row.R r1[j] 10).length ≤ ((Row.R r1[j] 10).map copyLit).length := by rw [List.length_map]; omega
  have h3 : Nat.ble (0 + (Row.R r1[j] 10).length) (0 + (Row.R r1[j] 10).length) = true := Nat.ble_eq_true_of_le (Nat.le_refl _)
  have h4 : (List.take (Row.R r1[j] 10).length (List.drop 0 ((Row.R r1[j] 10).map copyLit))) = (Row.R r1[j] 10).map copyLit := by
   rw [List.drop_zero, List.take_of_length_le (by rw [List.length_map]; omega)]
  simp only [h1, decide_false, cond_false, h2, if_true, h3, Bool.and_true, h4]
  rw [show Kd.sameL [Kd.s, Kd.b, Kd.i IntKind.i64, Kd.s, Kd.s, Kd.sl [Kd.s, Kd.b, Kd.i IntKind.i64, Kd.s], Kd.s, Kd.b, Kd.i IntKind.i64, Kd.s] [Kd.s, Kd.b, Kd.i IntKind.i64, Kd.s, Kd.s, Kd.sl [Kd.s, Kd.b, Kd.i IntKind.i64, Kd.s], Kd.s, Kd.b, Kd.i IntKind.i64, Kd.s] = true from rfl, cond_true]
  rw [if_pos (by simp only [List.length_cons, List.length_nil]; omega)]
  rfl
 |succ k ih =>
  intro q hq i hi
  obtain ⟨i, rfl⟩ : ∃ m, i = m + 1 := ⟨i - 1, by omega⟩
  have hlt : q < (Row.R r1[j] 10).length := by omega
  have h1 : (q : Int) < ((Row.R r1[j] 10).length : Int) := by omega
  have h2 : (0 : Int) ≤ (q : Int) := by omega
  have hlen : (((Row.R r1[j] 10).take q).map copyLit ++ (Row.R r1[j] 10).drop q).length = (Row.R r1[j] 10).length := by
   simp only [List.length_append, List.length_map, List.length_take, List.length_drop]; omega
  have h3 : 0 + (q : Int).toNat < (((Row.R r1[j] 10).take q).map copyLit ++ (Row.R r1[j] 10).drop q).length := by rw [hlen, Int.toNat_natCast]; omega
  have hg : (((Row.R r1[j] 10).take q).map copyLit ++ (Row.R r1[j] 10).drop q).getD (0 + (q : Int).toNat) [] = (Row.R r1[j] 10)[q] := by
   have hz : (((Row.R r1[j] 10).take q).map copyLit).length = q := by rw [List.length_map, List.length_take]; omega
   rw [Int.toNat_natCast, Nat.zero_add, List.getD_eq_getElem?_getD, List.getElem?_append_right (by omega), List.getElem?_drop, hz, Nat.sub_self, Nat.add_zero, List.getElem?_eq_getElem hlt, Option.getD_some]
  have hA := ha _ (List.getElem_mem hlt)
  rw [z52_s9, wrap_succ (show q < big by unfold big; omega)]
  simp only [h1, h2, if_true, decide_true, cond_true, h3, hg]
  rw [if_pos (by omega)]
  have hset : List.set (((Row.R r1[j] 10).take q).map copyLit ++ (Row.R r1[j] 10).drop q) (0 + (q : Int).toNat) (copyLit (Row.R r1[j] 10)[q]) = ((Row.R r1[j] 10).take (q + 1)).map copyLit ++ (Row.R r1[j] 10).drop (q + 1) := by
   have hz : (((Row.R r1[j] 10).take q).map copyLit).length = q := by rw [List.length_map, List.length_take]; omega
   rw [Int.toNat_natCast, Nat.zero_add, List.set_append_right _ _ (by omega), hz, Nat.sub_self]
   rw [List.drop_eq_getElem_cons hlt, List.set_cons_zero, List.take_succ_eq_append_getElem hlt, List.map_append]
   simp
  refine Eq.trans ?_ (ih (q + 1) (by omega) i (by omega))
  rw [← hset]
  rfl
theorem copy_out (hn : 1000 < n) (hb : r1.length ≤ 1000) (h : ∀ r ∈ r1, CopyOk n r) : ∀ k q : Nat, q + k = r1.length → ∀ i nl, k < i →
  z52_l3 n b0 r1 i nl ((r1.take q).map copyRule) (q : Int) = some ((nl && decide (k = 0), r1.map copyRule), ()) := by
 intro k
 induction k with
 |zero =>
  intro q hq i nl hi
  obtain ⟨i, rfl⟩ : ∃ m, i = m + 1 := ⟨i - 1, by omega⟩
  rw [z52_s3, List.take_of_length_le (by omega)]
  have h1 : ¬ (q : Int) < (r1.length : Int) := by omega
  simp only [h1, decide_false, cond_false, decide_true, Bool.and_true]
 |succ k ih =>
  intro q hq i nl hi
  obtain ⟨i, rfl⟩ : ∃ m, i = m + 1 := ⟨i - 1, by omega⟩
  have hlt : q < r1.length := by omega
  have h1 : (q : Int) < (r1.length : Int) := by omega
  have h2 : (0 : Int) ≤ (q : Int) := by omega
  have hc := h _ (List.getElem_mem hlt)
  rw [z52_s3]
  simp only [h1, h2, if_true, decide_true, cond_true, Int.toNat_natCast, getD_get hlt]
  rw [if_pos (by have := hc.a; omega), if_pos (by have := hc.b; omega)]
  have hi := copy_in (n := n) (b0 := b0) (r1 := r1) (by omega) hlt (by have := hc.b; omega) hc.b hb hc.ba hc.bl (i0 := i) (nl := nl) (r8 := (r1.take q).map copyRule) (by simp; omega) (Row.R r1[q] 10).length 0 (by omega) n (by have := hc.b; omega)
  simp only [List.take_zero, List.map_nil, List.nil_append, List.drop_zero] at hi
  refine Eq.trans hi ?_
  have ht : (r1.take q).map copyRule ++ [copyRule r1[q]] = (r1.take (q + 1)).map copyRule := by
   rw [List.take_succ_eq_append_getElem hlt, List.map_append]; rfl
  rw [ht, ih (q + 1) (by omega) i (nl && false) (by omega)]
  simp
theorem Copy_q (hn : 1000 < n) (hb : r1.length ≤ 1000) (h : ∀ r ∈ r1, CopyOk n r) : ∃ nl, z52_v n b0 r1 = some ((nl, r1.map copyRule), ()) := by
 rw [z52_e]
 exact ⟨_, copy_out hn hb h r1.length 0 (by omega) n true (by omega)⟩
end
end Go.Den
