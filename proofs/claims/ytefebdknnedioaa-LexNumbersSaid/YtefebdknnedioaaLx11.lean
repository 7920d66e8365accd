import Derived.Test.YtefebdknnedioaaLx10
set_option linter.unusedVariables false
set_option linter.unusedSimpArgs false
set_option linter.unusedSectionVars false
/- LexJoins. -/
namespace Go.Den
open Go.Proofs
theorem tokF_fine {s : ByteArray} : ∀ k j l, tokF s k j = .ok l → ∀ r ∈ l, ∃ kd x v q, r = tokRow kd x v q ∧ q < s.size
  | 0, j, l, h, r, hr => by cases h; cases hr
  | k + 1, j, l, h, r, hr => by
    unfold tokF at h
    by_cases hlt : j < s.size
    · rw [if_pos hlt] at h
      cases ho : oneS s j with
      | none => rw [ho] at h; cases h
      | some t =>
        obtain ⟨kd, x, v, e⟩ := t
        rw [ho] at h
        simp only at h
        by_cases hx : x.size > 32
        · rw [if_pos hx] at h; cases h
        · rw [if_neg hx] at h
          cases ht : tokF s k (skip s e) with
          | error p => rw [ht] at h; cases h
          | ok l' =>
            rw [ht] at h
            cases h
            rcases List.mem_cons.1 hr with rfl | hr
            · exact ⟨kd, x, v, j, rfl, hlt⟩
            · exact tokF_fine k _ _ ht r hr
    · rw [if_neg hlt] at h; cases h; cases hr
theorem tokens_join {a b : ByteArray} {l m : Rows} (ha : tokens a = .ok l) (hb : tokens b = .ok m) : tokens (a ++ ByteArray.mk #[10] ++ b) = .ok (l ++ m.map (shiftTok (a.size + 1))) := by
  have hn : (ByteArray.mk #[10]).size = 1 := rfl
  have hu : (a ++ ByteArray.mk #[10]).size = a.size + 1 := by rw [app_size, hn]
  have hT : a ++ ByteArray.mk #[10] ++ b = a ++ (ByteArray.mk #[10] ++ b) := by
    apply ByteArray.ext; simp [ByteArray.data_append, Array.append_assoc]
  have b0 : bt (ByteArray.mk #[10] ++ b) 0 = 10 := by
    have := bt_app1 (s := ByteArray.mk #[10]) (t := b) (k := 0) (by decide)
    exact this
  have hw : Behind (ByteArray.mk #[10] ++ b) := by
    refine { pos := by rw [app_size, hn]; omega, inner := by rw [b0]; decide, minus := by rw [b0]; decide, quote := .inl (by rw [b0]; decide) }
  have hskipw : ∀ q, skipF (ByteArray.mk #[10] ++ b) (ByteArray.mk #[10] ++ b).size q 0 = 1 + skip b 0 := by
    intro q
    rw [app_size, hn, Nat.add_comm, skipF_succ]
    rw [show ((0 : Nat) : Int) = 0 from rfl, b0]
    have := skipF_shift (u := ByteArray.mk #[10]) (w := b) b.size false 0
    exact this
  have hskb := skip_le (s := b) (j := 0) (Nat.zero_le _)
  have hm : a.size + 1 + skip b 0 ≤ (a ++ (ByteArray.mk #[10] ++ b)).size := by rw [app_size, app_size, hn]; omega
  have hsz : (a ++ (ByteArray.mk #[10] ++ b)).size = a.size + (1 + b.size) := by rw [app_size, app_size, hn]
  have hska := skip_le (s := a) (j := 0) (Nat.zero_le _)
  have hs0 : skip (a ++ (ByteArray.mk #[10] ++ b)) 0 = if skip a 0 < a.size then skip a 0 else a.size + 1 + skip b 0 := by
    have hh := skip_app (s := a) (w := ByteArray.mk #[10] ++ b) (Nat.zero_le _)
    by_cases h : skip a 0 < a.size
    · rw [if_pos h]; exact hh.1 h
    · rw [if_neg h]
      obtain ⟨q, hq⟩ := hh.2 (by omega)
      rw [hq, hskipw]; omega
  have hj := tokF_join (a := a) hw hm (fun q => by rw [hskipw]; omega) (a.size + 1) (skip a 0) l hska.2 (by omega) ha (a.size + 1 + (a ++ (ByteArray.mk #[10] ++ b)).size + 1) (by omega)
  have hsh := tokF_shift (u := a ++ ByteArray.mk #[10]) (b := b) ((a ++ (ByteArray.mk #[10] ++ b)).size + 1) (skip b 0) hskb.2
  have hsk2 : skip (a ++ (ByteArray.mk #[10] ++ b)) 0 ≤ (a ++ (ByteArray.mk #[10] ++ b)).size := (skip_le (Nat.zero_le _)).2
  rw [hT]
  unfold tokens
  rw [tokF_more _ ((a ++ (ByteArray.mk #[10] ++ b)).size + 1) _ (a.size + 1 + (a ++ (ByteArray.mk #[10] ++ b)).size + 1) hsk2 (by omega) (by omega)]
  rw [hs0, hj]
  rw [hu, hT] at hsh
  rw [hsh, tokF_more b _ (skip b 0) (b.size + 1) hskb.2 (by omega) (by omega)]
  unfold tokens at hb
  rw [hb]
  rfl
theorem getD_left {l m : Rows} {j : Nat} (h : j < l.length) : (l ++ m).getD j [] = l.getD j [] := by
  rw [List.getD_eq_getElem?_getD, List.getD_eq_getElem?_getD, List.getElem?_append_left h]
theorem getD_right {l m : Rows} {j : Nat} : (l ++ m).getD (l.length + j) [] = m.getD j [] := by
  rw [List.getD_eq_getElem?_getD, List.getD_eq_getElem?_getD, List.getElem?_append_right (by omega)]
  congr 2; omega
theorem getD_map {m : Rows} {f : Row → Row} {j : Nat} (h : j < m.length) : (m.map f).getD j [] = f (m.getD j []) := by
  rw [List.getD_eq_getElem?_getD, List.getD_eq_getElem?_getD, List.getElem?_map, List.getElem?_eq_getElem h]; rfl
theorem joins_loop {n : Nat} {a b : ByteArray} {l m : Rows} (hl : l.length ≤ 4097) (hm : m.length ≤ 4097) (ha : a.size ≤ 4096) (hb : b.size ≤ 4096) (hn : 64 ≤ n) (hf : ∀ r ∈ m, ∃ kd x v q, r = tokRow kd x v q ∧ q < b.size) {c1 c2 c3 : Bool} :
    ∀ k j : Nat, j + k = l.length + m.length → ∀ i, k < i → law07_LexJoins_l9 n a b i c1 l c2 m c3 (l ++ m.map (shiftTok (a.size + 1))) (j : Int) = some (true, ()) := by
  intro k
  have hlen : (l ++ m.map (shiftTok (a.size + 1))).length = l.length + m.length := by simp
  induction k with
  | zero =>
    intro j hj i hi
    obtain ⟨i, rfl⟩ : ∃ z, i = z + 1 := ⟨i - 1, by omega⟩
    rw [law07_LexJoins_s9, hlen]
    have h1 : ¬ (j : Int) < ((l.length + m.length : Nat) : Int) := by omega
    simp only [h1, decide_false, cond_false, live_at hn, obind_some]
  | succ k ih =>
    intro j hj i hi
    obtain ⟨i, rfl⟩ : ∃ z, i = z + 1 := ⟨i - 1, by omega⟩
    rw [law07_LexJoins_s9, hlen, wrap_succ (j := j) (by unfold big; omega), ih (j + 1) (by omega) i (by omega)]
    have h1 : (j : Int) < ((l.length + m.length : Nat) : Int) := by omega
    have h0 : (0 : Int) ≤ (j : Int) := by omega
    simp only [h1, h0, decide_true, cond_true, if_true, Int.toNat_natCast]
    by_cases hjl : j < l.length
    · have h2 : (j : Int) < (l.length : Int) := by omega
      simp only [h2, decide_true, cond_true, if_true, getD_left hjl, beq_self_eq_true, Bool.and_self, Bool.not_true, cond_false]
    · obtain ⟨q, rfl⟩ : ∃ q, j = l.length + q := ⟨j - l.length, by omega⟩
      have hq : q < m.length := by omega
      have h2 : ¬ ((l.length + q : Nat) : Int) < (l.length : Int) := by omega
      have w1 : IntKind.wrap IntKind.i64 (((l.length + q : Nat) : Int) - (l.length : Int)) = (q : Int) := by rw [wrap_small (z := ((l.length + q : Nat) : Int) - (l.length : Int)) (by omega) (by omega)]; omega
      have h3 : (0 : Int) ≤ (q : Int) := by omega
      have h4 : (q : Int) < (m.length : Int) := by omega
      simp only [h2, decide_false, cond_false, w1, h3, h4, if_true, Int.toNat_natCast, getD_right, getD_map hq]
      obtain ⟨kd, x, v, p, hr, hp⟩ := hf (m.getD q []) (getD_mem hq)
      rw [hr]
      have r0 : Row.I (shiftTok (a.size + 1) (tokRow kd x v p)) 0 = kd := rfl
      have r1 : Row.S (shiftTok (a.size + 1) (tokRow kd x v p)) 1 = x := rfl
      have r2 : Row.I (shiftTok (a.size + 1) (tokRow kd x v p)) 2 = v := rfl
      have r3 : Row.I (shiftTok (a.size + 1) (tokRow kd x v p)) 3 = ((p + (a.size + 1) : Nat) : Int) := rfl
      have t0 : Row.I (tokRow kd x v p) 0 = kd := rfl
      have t1 : Row.S (tokRow kd x v p) 1 = x := rfl
      have t2 : Row.I (tokRow kd x v p) 2 = v := rfl
      have t3 : Row.I (tokRow kd x v p) 3 = (p : Int) := rfl
      have w2 : IntKind.wrap IntKind.i64 (IntKind.wrap IntKind.i64 (((p + (a.size + 1) : Nat) : Int) - (a.size : Int)) - 1) = (p : Int) := by
        rw [wrap_small (z := ((p + (a.size + 1) : Nat) : Int) - (a.size : Int)) (by omega) (by omega), wrap_small (z := ((p + (a.size + 1) : Nat) : Int) - (a.size : Int) - 1) (by omega) (by omega)]; omega
      rw [r0, r1, r2, r3, t0, t1, t2, t3, w2]
      simp only [beq_self_eq_true, Bool.and_self, Bool.not_true, cond_false]
theorem law07_LexJoins_pure (s0 s1 : ByteArray) (h0 : s0.size ≤ reachBytes) (h1 : s1.size ≤ reachBytes) : ∃ n, law07_LexJoins_v n s0 s1 = some (true, ()) := by
  refine ⟨20000, ?_⟩
  rw [law07_LexJoins_e]
  simp only [lex_Tokens_q (n := 20000) (by omega), live_at (n := 20000) (by omega), obind_some]
  cases ha : tokensE s0 with
  | error p =>
    have hp := tokensE_err ha
    have h3 : (p.2 != 0) = true := by simpa using hp.2
    cases tokensE s1 <;> simp only [tokRes, obind_some, h3, cond_true]
  | ok l =>
    cases hb : tokensE s1 with
    | error p =>
      have hp := tokensE_err hb
      have h3 : (p.2 != 0) = true := by simpa using hp.2
      simp only [tokRes, obind_some, bne_self_eq_false, cond_false, h3, cond_true]
    | ok m =>
      have hl := tokensE_len ha
      have hm := tokensE_len hb
      have w1 : IntKind.wrap IntKind.i64 (4095 - (s1.size : Int)) = 4095 - (s1.size : Int) := wrap_small (by omega) (by omega)
      simp only [tokRes, obind_some, bne_self_eq_false, cond_false, w1, List.nil_append]
      by_cases hc : (s0.size : Int) > 4095 - (s1.size : Int)
      · simp only [hc, decide_true, cond_true]
      · have g1 : s0.size + 1 < 4611686018427387904 := by omega
        have hu : (s0 ++ ByteArray.mk #[10]).size = s0.size + 1 := by rw [app_size]; rfl
        have g2 : (s0 ++ ByteArray.mk #[10]).size + s1.size < 4611686018427387904 := by omega
        have a' : tokens s0 = .ok l := by unfold tokensE at ha; rw [if_neg (by omega)] at ha; exact ha
        have b' : tokens s1 = .ok m := by unfold tokensE at hb; rw [if_neg (by omega)] at hb; exact hb
        have ht : tokensE (s0 ++ ByteArray.mk #[10] ++ s1) = .ok (l ++ m.map (shiftTok (s0.size + 1))) := by
          unfold tokensE
          rw [if_neg (by rw [app_size, hu]; omega)]
          exact tokens_join a' b'
        have hlen : (l ++ m.map (shiftTok (s0.size + 1))).length = l.length + m.length := by simp
        have w2 : IntKind.wrap IntKind.i64 ((l.length : Int) + (m.length : Int)) = ((l.length + m.length : Nat) : Int) := by rw [wrap_small (z := (l.length : Int) + (m.length : Int)) (by omega) (by omega)]; omega
        simp only [hc, decide_false, cond_false, g1, g2, if_true, ht, obind_some, bne_self_eq_false, List.nil_append, hlen, w2]
        exact joins_loop hl.2 hm.2 hl.1 hm.1 (by omega) (fun r hr => tokF_fine _ _ _ b' r hr) (l.length + m.length) 0 (by omega) 20000 (by omega)
end Go.Den
