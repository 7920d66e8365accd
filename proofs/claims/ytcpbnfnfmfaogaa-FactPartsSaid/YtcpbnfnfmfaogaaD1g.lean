import Derived.Test.YtcpbnfnfmfaogaaO2g
import Derived.Test.YtcpbnfnfmfaogaaW1
set_option linter.unusedVariables false
set_option linter.unusedSimpArgs false
set_option linter.unusedSectionVars false
/- FactCompares, FactChecks, FactOrders. -/
namespace Go.Den
open Go.Proofs
theorem live4 (k : Nat) : law04_live_v (k + 64) = some (true, ()) := by kernel_rfl
theorem live4_at {n : Nat} (h : 64 ≤ n) : law04_live_v n = some (true, ()) := by
  obtain ⟨k, rfl⟩ : ∃ k, n = k + 64 := ⟨n - 64, by omega⟩
  exact live4 k
theorem text_same (n : Nat) (s : ByteArray) : ∃ b, fact_text_v n s = some (b, ()) ∧ ref04_Text_v n s = some (b, ()) := by
  rw [fact_text_e, ref04_Text_e]
  cases decide ((s.size : Int) ≥ 1) with
  | true => exact ⟨_, rfl, rfl⟩
  | false => exact ⟨_, rfl, rfl⟩
theorem good_same (n : Nat) (b : Bool) (j : Int) (s : ByteArray) : ∃ z, fact_Good_v n b j s = some (z, ()) ∧ ref04_Good_v n b j s = some (z, ()) := by
  rw [fact_Good_e, ref04_Good_e]
  obtain ⟨z, h1, h2⟩ := text_same n s
  cases b with
  | true => exact ⟨_, rfl, rfl⟩
  | false =>
    cases j == 0 with
    | true => simp only [cond_false, cond_true, h1, h2, obind_some]; exact ⟨z, rfl, rfl⟩
    | false => exact ⟨_, rfl, rfl⟩
theorem law04_FactCompares_pure (b0 : Bool) (j1 : Int) (s2 : ByteArray) (b3 : Bool) (j4 : Int) (s5 : ByteArray) (_h1 : (Lit.int .i64 j1).wf = true) (_h2 : s2.size ≤ reachBytes) (_h4 : (Lit.int .i64 j4).wf = true) (_h5 : s5.size ≤ reachBytes) :
    ∃ n, law04_FactCompares_v n b0 j1 s2 b3 j4 s5 = some (true, ()) := by
  refine ⟨64, ?_⟩
  rw [law04_FactCompares_e]
  obtain ⟨z, h1, h2⟩ := good_same 64 b0 j1 s2
  simp only [h1, h2, obind_some, beq_self_eq_true, cond_true, fact_Compare_q (n := 64) (by omega), ref04_Compare_q, live4_at (n := 64) (by omega)]
theorem check_same {n : Nat} {s0 s1 s2 : ByteArray} {b3 : Bool} {r4 : Rows} (hn : 1000 < n) : ∃ z, fact_Check_v n s0 s1 s2 b3 r4 = some (z, ()) ∧ ref04_Check_v n s0 s1 s2 b3 r4 = some (z, ()) := by
  rw [fact_Check_e, ref04_Check_e]
  obtain ⟨z0, h1, h2⟩ := text_same n s0
  obtain ⟨z1, h3, h4⟩ := text_same n s1
  obtain ⟨z2, h5, h6⟩ := text_same n s2
  simp only [h1, h2, h3, h4, h5, h6, obind_some]
  cases z0 with
  | false => exact ⟨_, rfl, rfl⟩
  | true =>
  cases z1 with
  | false => exact ⟨_, rfl, rfl⟩
  | true =>
  cases z2 with
  | false => exact ⟨_, rfl, rfl⟩
  | true =>
  by_cases hl : (r4.length : Int) > 48
  · simp only [hl, decide_true, cond_true, Bool.not_true, cond_false]; exact ⟨_, rfl, rfl⟩
  · simp only [hl, decide_false, Bool.not_true, cond_false]
    have loop : ∀ k q : Nat, q + k = r4.length → ∀ f, k < f → ∃ z, fact_Check_l4 n s0 s1 s2 b3 r4 f (q : Int) = some (z, ()) ∧ ref04_Check_l4 n s0 s1 s2 b3 r4 f (q : Int) = some (z, ()) := by
      intro k
      induction k with
      | zero =>
        intro q hq f hf
        obtain ⟨f, rfl⟩ : ∃ z, f = z + 1 := ⟨f - 1, by omega⟩
        rw [fact_Check_s4, ref04_Check_s4]
        have h1 : ¬ ((q : Int) < (r4.length : Int)) := by omega
        simp only [h1, decide_false, cond_false]
        exact ⟨_, rfl, rfl⟩
      | succ k ih =>
        intro q hq f hf
        obtain ⟨f, rfl⟩ : ∃ z, f = z + 1 := ⟨f - 1, by omega⟩
        have hlt : q < r4.length := by omega
        have h1 : (q : Int) < (r4.length : Int) := by omega
        have h0 : (0 : Int) ≤ (q : Int) := by omega
        rw [fact_Check_s4, ref04_Check_s4, wrap_succ (show q < big by unfold big; omega)]
        obtain ⟨z, g1, g2⟩ := good_same n (Row.B r4[q] 0) (Row.I r4[q] 1) (Row.S r4[q] 2)
        simp only [h1, h0, decide_true, cond_true, if_true, Int.toNat_natCast, getD_get hlt, g1, g2, obind_some]
        cases z with
        | false => exact ⟨_, rfl, rfl⟩
        | true => exact ih (q + 1) (by omega) f (by omega)
    exact loop r4.length 0 (by omega) n (by omega)
theorem law04_FactChecks_pure (s0 s1 s2 : ByteArray) (b3 : Bool) (r4 : Rows) (s5 s6 s7 : ByteArray) (b8 : Bool) (r9 : Rows) (_h0 : s0.size ≤ reachBytes) (_h1 : s1.size ≤ reachBytes) (_h2 : s2.size ≤ reachBytes) (h4 : Fsl b3 kC r4)
    (_h5 : s5.size ≤ reachBytes) (_h6 : s6.size ≤ reachBytes) (_h7 : s7.size ≤ reachBytes) (h9 : Fsl b8 kC r9) : ∃ n, law04_FactChecks_v n s0 s1 s2 b3 r4 s5 s6 s7 b8 r9 = some (true, ()) := by
  refine ⟨2000 + r4.length + r9.length, ?_⟩
  have l4 := h4.1
  have l9 := h9.1
  unfold reachBytes at l4 l9
  generalize hN : 2000 + r4.length + r9.length = n
  rw [law04_FactChecks_e]
  obtain ⟨z, h1, h2⟩ := check_same (n := n) (s0 := s0) (s1 := s1) (s2 := s2) (b3 := b3) (r4 := r4) (by omega)
  have a1 := fact_Order_q (n := n) (s0 := s0) (s1 := s1) (s2 := s2) (s5 := s5) (s6 := s6) (s7 := s7) (b3 := b3) (b8 := b8) (r4 := r4) (r9 := r9) (by unfold big; omega) (by omega) (by omega)
  have a2 := fact_Order_q (n := n) (s0 := s5) (s1 := s6) (s2 := s7) (s5 := s0) (s6 := s1) (s7 := s2) (b3 := b8) (b8 := b3) (r4 := r9) (r9 := r4) (by unfold big; omega) (by omega) (by omega)
  have a3 := ref04_Order_q (n := n) (s0 := s0) (s1 := s1) (s2 := s2) (s5 := s5) (s6 := s6) (s7 := s7) (b3 := b3) (b8 := b8) (r4 := r4) (r9 := r9) (by unfold big; omega) (by omega)
  have a4 := ref04_Order_q (n := n) (s0 := s5) (s1 := s6) (s2 := s7) (s5 := s0) (s6 := s1) (s7 := s2) (b3 := b8) (b8 := b3) (r4 := r9) (r9 := r4) (by unfold big; omega) (by omega)
  simp only [h1, h2, a1, a2, a3, a4, obind_some, beq_self_eq_true, cond_true, live4_at (n := n) (by omega)]
theorem cmpC_small (a b : Cn) : -1 ≤ cmpC a b ∧ cmpC a b ≤ 1 := by
  unfold cmpC
  have ht : -1 ≤ texts a.2.2 b.2.2 ∧ texts a.2.2 b.2.2 ≤ 1 := by rcases texts_cases a.2.2 b.2.2 with ⟨_, h, _⟩ | ⟨_, h, _⟩ | ⟨_, h, _⟩ <;> omega
  cases a.1 && !b.1 <;> cases b.1 && !a.1 <;> cases decide (a.2.1 < b.2.1) <;> cases decide (a.2.1 > b.2.1) <;> simp only [cond_true, cond_false] <;> omega
theorem ordA_small : ∀ a b : Rows, -1 ≤ ordA a b ∧ ordA a b ≤ 1
  | [], [] => by simp [ordA]
  | [], _ :: _ => by simp [ordA]
  | _ :: _, [] => by simp [ordA]
  | x :: l, y :: m => by
    rw [ordA_cons]
    have := ordA_small l m
    have := cmpC_small (cnAt x) (cnAt y)
    split <;> omega
theorem ordF_small (f g : Fc) : -1 ≤ ordF f g ∧ ordF f g ≤ 1 := by
  have h : ∀ a b : ByteArray, -1 ≤ texts a b ∧ texts a b ≤ 1 := fun a b => by rcases texts_cases a b with ⟨_, h, _⟩ | ⟨_, h, _⟩ | ⟨_, h, _⟩ <;> omega
  unfold ordF
  have h1 := h f.1 g.1
  have h2 := h f.2.1 g.2.1
  have h3 := h f.2.2.1 g.2.2.1
  have h4 := ordA_small f.2.2.2 g.2.2.2
  cases f.1 == g.1 <;> cases f.2.1 == g.2.1 <;> cases f.2.2.1 == g.2.2.1 <;> simp only [Bool.not_true, Bool.not_false, cond_true, cond_false] <;> omega
theorem neg_wrap {z : Int} (h : -1 ≤ z ∧ z ≤ 1) : IntKind.wrap IntKind.i64 (0 - z) = - z := by
  have : z = -1 ∨ z = 0 ∨ z = 1 := by omega
  rcases this with rfl | rfl | rfl <;> rfl
def allC : Rows → Rows → Bool
  | x :: l, y :: m => sameC (cnAt x) (cnAt y) && allC l m
  | _, _ => true
theorem allC_eq : ∀ {l m : Rows}, l.length = m.length → (allC l m = true ↔ l.map cnAt = m.map cnAt)
  | [], [], _ => by simp [allC]
  | x :: l, y :: m, h => by
    unfold allC
    rw [Bool.and_eq_true, allC_eq (by simpa using h), sameC_eq]
    simp
section
variable {n : Nat} {s0 s1 s2 s5 s6 s7 s10 s11 s12 : ByteArray} {b3 b8 b13 : Bool} {r4 r9 r14 : Rows}
theorem orders_loop (hn : 64 ≤ n) (h4 : r4.length < big) (h4n : r4.length < n) : ∀ k q : Nat, q + k = r4.length → ∀ f b, k < f → (b = true → r4.length = r9.length) → ((ordF (s0, s1, s2, r4) (s5, s6, s7, r9) == 0) = (b && allC (r4.drop q) (r9.drop q))) →
    law04_FactOrders_l5 n s0 s1 s2 b3 r4 s5 s6 s7 b8 r9 s10 s11 s12 b13 r14 f b (q : Int) = some (true, ()) := by
  intro k
  have ho := fact_Order_q (n := n) (s0 := s0) (s1 := s1) (s2 := s2) (s5 := s5) (s6 := s6) (s7 := s7) (b3 := b3) (b8 := b8) (r4 := r4) (r9 := r9) h4 h4n (by omega)
  induction k with
  | zero =>
    intro q hq f b hf hb he
    obtain ⟨f, rfl⟩ : ∃ z, f = z + 1 := ⟨f - 1, by omega⟩
    rw [law04_FactOrders_s5]
    rw [List.drop_eq_nil_of_le (show r4.length ≤ q by omega)] at he
    have h1 : ¬ ((q : Int) < (r4.length : Int)) := by omega
    have he' : (ordF (s0, s1, s2, r4) (s5, s6, s7, r9) == 0) = b := by
      rw [he]; simp [allC]
    cases b with
    | true => simp only [h1, decide_false, cond_false, cond_true, ho, obind_some, he', beq_self_eq_true, live4_at hn]
    | false => simp only [cond_false, ho, obind_some, he', beq_self_eq_true, cond_true, live4_at hn]
  | succ k ih =>
    intro q hq f b hf hb he
    obtain ⟨f, rfl⟩ : ∃ z, f = z + 1 := ⟨f - 1, by omega⟩
    rw [law04_FactOrders_s5]
    cases b with
    | false =>
      have he' : (ordF (s0, s1, s2, r4) (s5, s6, s7, r9) == 0) = false := by rw [he]; rfl
      simp only [cond_false, ho, obind_some, he', beq_self_eq_true, cond_true, live4_at hn]
    | true =>
      have hlt : q < r4.length := by omega
      have hl := hb rfl
      have hlt9 : q < r9.length := by omega
      have h1 : (q : Int) < (r4.length : Int) := by omega
      have h9 : (q : Int) < (r9.length : Int) := by omega
      have h0 : (0 : Int) ≤ (q : Int) := by omega
      rw [List.drop_eq_getElem_cons hlt, List.drop_eq_getElem_cons hlt9] at he
      rw [wrap_succ (show q < big by omega)]
      simp only [h1, h0, h9, decide_true, cond_true, if_true, Int.toNat_natCast, getD_get hlt, getD_get hlt9]
      refine ih (q + 1) (by omega) f _ (by omega) (fun _ => hl) ?_
      rw [he, Bool.true_and]
      rfl
theorem law04_FactOrders_pure (s0 s1 s2 : ByteArray) (b3 : Bool) (r4 : Rows) (s5 s6 s7 : ByteArray) (b8 : Bool) (r9 : Rows) (s10 s11 s12 : ByteArray) (b13 : Bool) (r14 : Rows) (_h0 : s0.size ≤ reachBytes) (_h1 : s1.size ≤ reachBytes) (_h2 : s2.size ≤ reachBytes) (h4 : Fsl b3 kC r4)
    (_h5 : s5.size ≤ reachBytes) (_h6 : s6.size ≤ reachBytes) (_h7 : s7.size ≤ reachBytes) (h9 : Fsl b8 kC r9) (_h10 : s10.size ≤ reachBytes) (_h11 : s11.size ≤ reachBytes) (_h12 : s12.size ≤ reachBytes) (h14 : Fsl b13 kC r14) :
    ∃ n, law04_FactOrders_v n s0 s1 s2 b3 r4 s5 s6 s7 b8 r9 s10 s11 s12 b13 r14 = some (true, ()) := by
  refine ⟨2000 + r4.length + r9.length + r14.length, ?_⟩
  have l4 := h4.1
  have l9 := h9.1
  have l14 := h14.1
  unfold reachBytes at l4 l9 l14
  generalize hN : 2000 + r4.length + r9.length + r14.length = n
  rw [law04_FactOrders_e]
  have o : ∀ {a b c d e f : ByteArray} {u v : Bool} {x y : Rows}, x.length ≤ 140737488355328 → x.length < n → fact_Order_v n a b c u x d e f v y = some (ordF (a, b, c, x) (d, e, f, y), ()) := fun h1 h2 => fact_Order_q (by unfold big; omega) h2 (by omega)
  simp only [o (x := r4) (by omega) (by omega), o (x := r9) (by omega) (by omega), obind_some]
  have e1 : (ordF (s0, s1, s2, r4) (s5, s6, s7, r9) != IntKind.wrap IntKind.i64 (0 - ordF (s5, s6, s7, r9) (s0, s1, s2, r4))) = false := by
    rw [neg_wrap (ordF_small _ _), ordF_ord.anti (s0, s1, s2, r4) (s5, s6, s7, r9)]; simp
  have e2 : (ordF (s0, s1, s2, r4) (s0, s1, s2, r4) != 0) = false := by rw [ordF_refl]; rfl
  simp only [e1, e2, cond_false]
  have tail : (bif s0 == s5 then
        bif s1 == s6 then
          bif s2 == s7 then
            law04_FactOrders_l5 n s0 s1 s2 b3 r4 s5 s6 s7 b8 r9 s10 s11 s12 b13 r14 n ((r4.length : Int) == (r9.length : Int)) 0
          else law04_FactOrders_l5 n s0 s1 s2 b3 r4 s5 s6 s7 b8 r9 s10 s11 s12 b13 r14 n false 0
        else law04_FactOrders_l5 n s0 s1 s2 b3 r4 s5 s6 s7 b8 r9 s10 s11 s12 b13 r14 n false 0
      else law04_FactOrders_l5 n s0 s1 s2 b3 r4 s5 s6 s7 b8 r9 s10 s11 s12 b13 r14 n false 0) = some (true, ()) := by
    have no : ¬ sameF (s0, s1, s2, r4) (s5, s6, s7, r9) → law04_FactOrders_l5 n s0 s1 s2 b3 r4 s5 s6 s7 b8 r9 s10 s11 s12 b13 r14 n false 0 = some (true, ()) := fun h => by
      refine orders_loop (by omega) (by unfold big; omega) (by omega) r4.length 0 (by omega) n false (by omega) (fun h => by cases h) ?_
      have : ¬ ordF (s0, s1, s2, r4) (s5, s6, s7, r9) = 0 := fun e => h (ordF_zero.1 e)
      simpa using this
    cases h0 : s0 == s5 with
    | false => exact no (fun h => by have := h.1; simp only at this; subst this; simp at h0)
    | true =>
    cases h1 : s1 == s6 with
    | false => exact no (fun h => by have := h.2.1; simp only at this; subst this; simp at h1)
    | true =>
    cases h2 : s2 == s7 with
    | false => exact no (fun h => by have := h.2.2.1; simp only at this; subst this; simp at h2)
    | true =>
    have h0 := eq_of_beq h0
    have h1 := eq_of_beq h1
    have h2 := eq_of_beq h2
    subst h0 h1 h2
    simp only [cond_true]
    cases hl : (r4.length : Int) == (r9.length : Int) with
    | false => exact no (fun h => by
        have := congrArg List.length h.2.2.2
        simp only [List.length_map] at this
        rw [this] at hl; simp at hl)
    | true =>
      have hl' : r4.length = r9.length := by
        have : (r4.length : Int) = (r9.length : Int) := by simpa using hl
        omega
      refine orders_loop (by omega) (by unfold big; omega) (by omega) r4.length 0 (by omega) n true (by omega) (fun _ => hl') ?_
      rw [Bool.true_and, List.drop_zero, List.drop_zero]
      have hz : ordF (s0, s1, s2, r4) (s0, s1, s2, r9) = 0 ↔ allC r4 r9 = true := by
        rw [ordF_zero, allC_eq hl']
        exact ⟨fun h => h.2.2.2, fun h => ⟨rfl, rfl, rfl, h⟩⟩
      cases ha : allC r4 r9 with
      | true => rw [hz.2 ha]; rfl
      | false =>
        have : ¬ ordF (s0, s1, s2, r4) (s0, s1, s2, r9) = 0 := fun e => by rw [hz.1 e] at ha; cases ha
        simpa using this
  cases hd1 : decide (ordF (s0, s1, s2, r4) (s5, s6, s7, r9) ≤ 0) with
  | false => simp only [cond_false]; exact tail
  | true =>
    cases hd2 : decide (ordF (s5, s6, s7, r9) (s10, s11, s12, r14) ≤ 0) with
    | false => simp only [cond_true, cond_false]; exact tail
    | true =>
      have h3 := ordF_ord.trans _ _ _ (of_decide_eq_true hd1) (of_decide_eq_true hd2)
      have hd3 : decide (ordF (s0, s1, s2, r4) (s10, s11, s12, r14) > 0) = false := decide_eq_false (by omega)
      simp only [cond_true, cond_false, hd3]
      exact tail
end
end Go.Den
