import Derived.Test.YtbdjanjcphgjdaaDoorZ39
import Derived.Test.YtbdjanjcphgjdaaDoorZ42
set_option linter.unusedVariables false
set_option linter.unusedSimpArgs false
set_option linter.unusedSectionVars false
namespace Go.Den
open Go.Proofs
set_option maxRecDepth 20000
set_option linter.unusedVariables false
def relayB (s : ByteArray) : Bool := decide (0 < s.size) && (bt s 0 == 126)
theorem ref13_Relay_q {n : Nat} (s : ByteArray) : ref13_Relay_v n s = some (relayB s, ()) := by
  rw [ref13_Relay_e]
  unfold relayB
  by_cases h : 0 < s.size
  · have h1 : (s.size : Int) > 0 := by omega
    have h2 : (0 : Int) < (s.size : Int) := by omega
    simp only [h, h1, h2, decide_true, cond_true, if_true, Bool.true_and]
  · have h1 : ¬ (s.size : Int) > 0 := by omega
    simp only [h, h1, decide_false, cond_false, Bool.false_and]
theorem local_Relay_q {n : Nat} (s : ByteArray) : local_Relay_v n s = some (relayB s, ()) := by
  rw [local_Relay_e, strings_HasPrefix_e, internal_stringslite_HasPrefix_e]
  unfold relayB
  have hs : (ByteArray.mk #[126]).size = 1 := rfl
  rw [hs]
  by_cases h : 0 < s.size
  · have h1 : (s.size : Int) ≥ ((1 : Nat) : Int) := by omega
    have h2 : ((1 : Nat) : Int) ≤ (s.size : Int) := by omega
    simp only [h, h1, h2, decide_true, cond_true, if_true, Bool.true_and, obs]
    congr 2
    obtain ⟨⟨l⟩⟩ := s
    match l, h with
    | a :: l, _ =>
      have e1 : (ByteArray.mk ⟨a :: l⟩).extract 0 (Int.toNat ((1 : Nat) : Int)) = ByteArray.mk #[a] := by
        apply ByteArray.ext
        rw [ByteArray.data_extract]
        simp
      rw [e1]
      show (ByteArray.mk #[a] == ByteArray.mk #[126]) = (((a.toNat : Nat) : Int) == 126)
      by_cases ha : a = 126
      · subst ha; rfl
      · have : ¬ ((a.toNat : Nat) : Int) = 126 := fun h => ha (UInt8.toNat_inj.1 (by show a.toNat = 126; omega))
        rw [show (((a.toNat : Nat) : Int) == 126) = false from by simpa using this]
        apply beq_eq_false_iff_ne.2
        intro hh
        have := congrArg (fun b : ByteArray => b.data.toList) hh
        simp at this
        exact ha this
  · have h1 : ¬ (s.size : Int) ≥ ((1 : Nat) : Int) := by omega
    simp only [h, h1, decide_false, cond_false, Bool.false_and, obs]
@[reducible] def seenP (x : Row) : Row := [DV.val (Value.string (Row.S x 0)), DV.val (Value.string (Row.S x 1)), DV.val (Value.string (Row.S x 2)), DV.sl (true && List.isEmpty (Row.R x 3)) [Kd.b, Kd.i IntKind.i64, Kd.s] (appX [] (Row.R x 3))]
@[reducible] def seenR (x : Row) : Row := [DV.val (Value.string (Row.S x 0)), DV.val (Value.string (Row.S x 1)), DV.val (Value.string (Row.S x 2)), DV.sl (Row.N x 3) [Kd.b, Kd.i IntKind.i64, Kd.s] (Row.R x 3)]
def seenF (l : Rows) : Rows := l.filter (fun r => !relayB (Row.S r 2))
theorem Seen_l {n : Nat} {b0 : Bool} {r1 : Rows} (hl : r1.length ≤ 1000000) (ha : ∀ x ∈ r1, (Row.R x 3).length ≤ 1000000) : ∀ k q : Nat, q + k = r1.length → ∀ (i : Nat) (b : Bool) (acc : Rows), k < i → acc.length ≤ q →
    ∃ c, local_Seen_l3 n b0 r1 i b acc (q : Int) = some ((c, acc ++ (seenF (r1.drop q)).map seenP), ()) := by
  have hb : 4000000 ≤ big := by unfold big; omega
  intro k
  induction k with
  | zero =>
    intro q hq i b acc hi hac
    obtain ⟨i, rfl⟩ : ∃ m, i = m + 1 := ⟨i - 1, by omega⟩
    have hnil : r1.drop q = [] := List.drop_eq_nil_of_le (by omega)
    rw [local_Seen_s3, hnil]
    have h1 : ¬ (q : Int) < (r1.length : Int) := by omega
    simp only [h1, decide_false, cond_false]
    exact ⟨b, by simp [seenF]⟩
  | succ k ih =>
    intro q hq i b acc hi hac
    obtain ⟨i, rfl⟩ : ∃ m, i = m + 1 := ⟨i - 1, by omega⟩
    have hlt : q < r1.length := by omega
    have h1 : (q : Int) < (r1.length : Int) := by omega
    have hd : r1.drop q = r1[q] :: r1.drop (q + 1) := List.drop_eq_getElem_cons hlt
    have hx := ha r1[q] (List.getElem_mem hlt)
    rw [local_Seen_s3, wrap_succ (show q < big by omega)]
    simp only [h1, natj, if_true, decide_true, cond_true, Int.toNat_natCast, getD_get hlt, local_Relay_q, obs]
    cases hr : relayB (Row.S r1[q] 2) with
    | true =>
      obtain ⟨c, g⟩ := ih (q + 1) (by omega) i b acc (by omega) (by omega)
      simp only [Bool.not_true, cond_false]
      refine ⟨c, g.trans ?_⟩
      rw [hd, seenF, seenF, List.filter_cons_of_neg (by simp [hr])]
    | false =>
      simp only [Bool.not_false, cond_true]
      rw [if_pos (by omega), if_pos (by show (acc.length + 1) * 72 ≤ _; omega)]
      obtain ⟨c, g⟩ := ih (q + 1) (by omega) i (b && List.isEmpty [seenP r1[q]]) (acc ++ [seenP r1[q]]) (by omega) (by simp; omega)
      refine ⟨c, g.trans ?_⟩
      rw [hd, seenF, seenF, List.filter_cons_of_pos (by simp [hr]), List.map_cons, List.append_assoc]; rfl
theorem rSeen_l {n : Nat} {b0 : Bool} {r1 : Rows} (hl : r1.length ≤ 1000000) : ∀ k q : Nat, q + k = r1.length → ∀ (i : Nat) (b : Bool) (acc : Rows), k < i → acc.length ≤ q →
    ∃ c, ref13_Seen_l3 n b0 r1 i b acc (q : Int) = some ((c, acc ++ (seenF (r1.drop q)).map seenR), ()) := by
  have hb : 4000000 ≤ big := by unfold big; omega
  intro k
  induction k with
  | zero =>
    intro q hq i b acc hi hac
    obtain ⟨i, rfl⟩ : ∃ m, i = m + 1 := ⟨i - 1, by omega⟩
    have hnil : r1.drop q = [] := List.drop_eq_nil_of_le (by omega)
    rw [ref13_Seen_s3, hnil]
    have h1 : ¬ (q : Int) < (r1.length : Int) := by omega
    simp only [h1, decide_false, cond_false]
    exact ⟨b, by simp [seenF]⟩
  | succ k ih =>
    intro q hq i b acc hi hac
    obtain ⟨i, rfl⟩ : ∃ m, i = m + 1 := ⟨i - 1, by omega⟩
    have hlt : q < r1.length := by omega
    have h1 : (q : Int) < (r1.length : Int) := by omega
    have hd : r1.drop q = r1[q] :: r1.drop (q + 1) := List.drop_eq_getElem_cons hlt
    rw [ref13_Seen_s3, wrap_succ (show q < big by omega)]
    simp only [h1, natj, if_true, decide_true, cond_true, Int.toNat_natCast, getD_get hlt, ref13_Relay_q, obs]
    cases hr : relayB (Row.S r1[q] 2) with
    | true =>
      obtain ⟨c, g⟩ := ih (q + 1) (by omega) i b acc (by omega) (by omega)
      simp only [Bool.not_true, cond_false]
      refine ⟨c, g.trans ?_⟩
      rw [hd, seenF, seenF, List.filter_cons_of_neg (by simp [hr])]
    | false =>
      simp only [Bool.not_false, cond_true]
      rw [if_pos (by show (acc.length + 1) * 72 ≤ _; omega)]
      obtain ⟨c, g⟩ := ih (q + 1) (by omega) i (b && List.isEmpty [seenR r1[q]]) (acc ++ [seenR r1[q]]) (by omega) (by simp; omega)
      refine ⟨c, g.trans ?_⟩
      rw [hd, seenF, seenF, List.filter_cons_of_pos (by simp [hr]), List.map_cons, List.append_assoc]; rfl
theorem likeF_map : ∀ l : Rows, likeF (l.map seenP) (l.map seenR) = true
  | [] => rfl
  | x :: l => by
    have h := likeF_map l
    show (bif ordF (fcAt (seenP x)) (fcAt (seenR x)) != 0 then false else likeF (l.map seenP) (l.map seenR)) = true
    have e : fcAt (seenP x) = fcAt (seenR x) := rfl
    rw [e, ordF_refl, h]; rfl
theorem LocalSeen_l {n : Nat} {b0 : Bool} {r1 : Rows} (hn : 2000000 < n) (hl : r1.length ≤ 1000000) (ha : ∀ x ∈ r1, (Row.R x 3).length ≤ 1000000) : ∀ k q : Nat, q + k = r1.length → ∀ (i : Nat), k < i →
    law13_LocalSeen_l4 n b0 r1 i (q : Int) = some (true, ()) := by
  have hb : 4000000 ≤ big := by unfold big; omega
  intro k
  induction k with
  | zero =>
    intro q hq i hi
    obtain ⟨i, rfl⟩ : ∃ m, i = m + 1 := ⟨i - 1, by omega⟩
    rw [law13_LocalSeen_s4]
    have h1 : ¬ (q : Int) < (r1.length : Int) := by omega
    simp only [h1, decide_false, cond_false]
    obtain ⟨c1, e1⟩ := Seen_l (n := n) (b0 := b0) hl ha r1.length 0 (by omega) n true [] (by omega) (by simp)
    obtain ⟨c2, e2⟩ := rSeen_l (n := n) (b0 := b0) hl r1.length 0 (by omega) n true [] (by omega) (by simp)
    have f1 : local_Seen_v n b0 r1 = _ := (local_Seen_e n b0 r1).trans e1
    have f2 : ref13_Seen_v n b0 r1 = _ := (ref13_Seen_e n b0 r1).trans e2
    rw [f1, f2]
    simp only [obs, List.drop_zero, List.nil_append]
    have hle : ((seenF r1).map seenP).length ≤ r1.length := by rw [List.length_map]; exact List.length_filter_le _ _
    rw [ref04_Like_q (by omega) (by omega) (fun r hr => by
      obtain ⟨x, hx, rfl⟩ := List.mem_map.1 hr
      have hx' := ha x (List.mem_filter.1 hx).1
      show ((Row.R x 3).length < n) ∧ (Row.R x 3).length < big
      omega), likeF_map, live13_q hn]
    rfl
  | succ k ih =>
    intro q hq i hi
    obtain ⟨i, rfl⟩ : ∃ m, i = m + 1 := ⟨i - 1, by omega⟩
    have hlt : q < r1.length := by omega
    have h1 : (q : Int) < (r1.length : Int) := by omega
    rw [law13_LocalSeen_s4, wrap_succ (show q < big by omega), ih (q + 1) (by omega) i (by omega)]
    simp only [h1, natj, if_true, decide_true, cond_true, Int.toNat_natCast, getD_get hlt, local_Relay_q, ref13_Relay_q, obs, beq_self_eq_true, Bool.not_true, cond_false]
theorem law13_LocalSeen_pure (b0 : Bool) (r1 : Rows) (h : Fsl b0 kF r1) : ∃ n, law13_LocalSeen_v n b0 r1 = some (true, ()) := by
  refine ⟨bigN, ?_⟩
  have hN := bigN_big
  have hN2 := bigN_2
  have hlv := live13_q (n := bigN) hN2
  rw [law13_LocalSeen_e, weight4_q (by omega) (by omega) h.2.2.1 h.1 (fun r hr => bigN_lt (fineF (rowsFine_mem h.2.2.1 hr)).1) (bigN_lt h.1), hlv]
  simp only [obs]
  by_cases hw : weight4 300 r1 0 > 300
  · simp only [hw, decide_true, cond_true]
  · simp only [hw, decide_false, cond_false]
    obtain ⟨h1, h2⟩ := weight4_all (most := 300) r1 0 h.2.2.1 (Int.le_refl _) (by omega)
    exact LocalSeen_l hN2 (by omega) (fun x hx => by have := h2 x hx; omega) r1.length 0 (by omega) bigN (by omega)
end Go.Den
