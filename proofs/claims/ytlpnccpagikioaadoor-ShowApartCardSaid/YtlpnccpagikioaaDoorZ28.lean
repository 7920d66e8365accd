import Derived.Test.YtlpnccpagikioaaDoorZ27
set_option linter.unusedVariables false
set_option linter.unusedSimpArgs false
set_option linter.unusedSectionVars false
/- LexJoins. -/
namespace Go.Den
open Go.Proofs
theorem tokF_fine {s : ByteArray} : ∀ k j l, tokF s k j = .ok l → ∀ r ∈ l, ∃ kd x v q, r = tokRow kd x v q ∧ q < s.size
  | 0, j, l, h, r, hr => by cases h; cases hr
  | k + 1, j, l, h, r, hr => by
    unfold tokF at h
    by_cases hlt : j < s.size
    · rw [if_pos hlt] at h
      cases ho : oneS s j with
      | none => rw [ho] at h; cases h
      | some t =>
        obtain ⟨kd, x, v, e⟩ := t
        rw [ho] at h
        simp only at h
        by_cases hx : x.size > 32
        · rw [if_pos hx] at h; cases h
        · rw [if_neg hx] at h
          cases ht : tokF s k (skip s e) with
          | error p => rw [ht] at h; cases h
          | ok l' =>
            rw [ht] at h
            cases h
            rcases List.mem_cons.1 hr with rfl | hr
            · exact ⟨kd, x, v, j, rfl, hlt⟩
            · exact tokF_fine k _ _ ht r hr
    · rw [if_neg hlt] at h; cases h; cases hr
theorem tokens_join {a b : ByteArray} {l m : Rows} (ha : tokens a = .ok l) (hb : tokens b = .ok m) : tokens (a ++ ByteArray.mk #[10] ++ b) = .ok (l ++ m.map (shiftTok (a.size + 1))) := by
  have hn : (ByteArray.mk #[10]).size = 1 := rfl
  have hu : (a ++ ByteArray.mk #[10]).size = a.size + 1 := by rw [app_size, hn]
  have hT : a ++ ByteArray.mk #[10] ++ b = a ++ (ByteArray.mk #[10] ++ b) := by
    apply ByteArray.ext; simp [ByteArray.data_append, Array.append_assoc]
  have b0 : bt (ByteArray.mk #[10] ++ b) 0 = 10 := by
    have := bt_app1 (s := ByteArray.mk #[10]) (t := b) (k := 0) (by decide)
    exact this
  have hw : Behind (ByteArray.mk #[10] ++ b) := by
    refine { pos := by rw [app_size, hn]; omega, inner := by rw [b0]; decide, minus := by rw [b0]; decide, quote := .inl (by rw [b0]; decide) }
  have hskipw : ∀ q, skipF (ByteArray.mk #[10] ++ b) (ByteArray.mk #[10] ++ b).size q 0 = 1 + skip b 0 := by
    intro q
    rw [app_size, hn, Nat.add_comm, skipF_succ]
    rw [show ((0 : Nat) : Int) = 0 from rfl, b0]
    have := skipF_shift (u := ByteArray.mk #[10]) (w := b) b.size false 0
    exact this
  have hskb := skip_le (s := b) (j := 0) (Nat.zero_le _)
  have hm : a.size + 1 + skip b 0 ≤ (a ++ (ByteArray.mk #[10] ++ b)).size := by rw [app_size, app_size, hn]; omega
  have hsz : (a ++ (ByteArray.mk #[10] ++ b)).size = a.size + (1 + b.size) := by rw [app_size, app_size, hn]
  have hska := skip_le (s := a) (j := 0) (Nat.zero_le _)
  have hs0 : skip (a ++ (ByteArray.mk #[10] ++ b)) 0 = if skip a 0 < a.size then skip a 0 else a.size + 1 + skip b 0 := by
    have hh := skip_app (s := a) (w := ByteArray.mk #[10] ++ b) (Nat.zero_le _)
    by_cases h : skip a 0 < a.size
    · rw [if_pos h]; exact hh.1 h
    · rw [if_neg h]
      obtain ⟨q, hq⟩ := hh.2 (by omega)
      rw [hq, hskipw]; omega
  have hj := tokF_join (a := a) hw hm (fun q => by rw [hskipw]; omega) (a.size + 1) (skip a 0) l hska.2 (by omega) ha (a.size + 1 + (a ++ (ByteArray.mk #[10] ++ b)).size + 1) (by omega)
  have hsh := tokF_shift (u := a ++ ByteArray.mk #[10]) (b := b) ((a ++ (ByteArray.mk #[10] ++ b)).size + 1) (skip b 0) hskb.2
  have hsk2 : skip (a ++ (ByteArray.mk #[10] ++ b)) 0 ≤ (a ++ (ByteArray.mk #[10] ++ b)).size := (skip_le (Nat.zero_le _)).2
  rw [hT]
  unfold tokens
  rw [tokF_more _ ((a ++ (ByteArray.mk #[10] ++ b)).size + 1) _ (a.size + 1 + (a ++ (ByteArray.mk #[10] ++ b)).size + 1) hsk2 (by omega) (by omega)]
  rw [hs0, hj]
  rw [hu, hT] at hsh
  rw [hsh, tokF_more b _ (skip b 0) (b.size + 1) hskb.2 (by omega) (by omega)]
  unfold tokens at hb
  rw [hb]
  rfl
theorem getD_left {l m : Rows} {j : Nat} (h : j < l.length) : (l ++ m).getD j [] = l.getD j [] := by
  rw [List.getD_eq_getElem?_getD, List.getD_eq_getElem?_getD, List.getElem?_append_left h]
theorem getD_right {l m : Rows} {j : Nat} : (l ++ m).getD (l.length + j) [] = m.getD j [] := by
  rw [List.getD_eq_getElem?_getD, List.getD_eq_getElem?_getD, List.getElem?_append_right (by omega)]
  congr 2; omega
theorem getD_map {m : Rows} {f : Row → Row} {j : Nat} (h : j < m.length) : (m.map f).getD j [] = f (m.getD j []) := by
  rw [List.getD_eq_getElem?_getD, List.getD_eq_getElem?_getD, List.getElem?_map, List.getElem?_eq_getElem h]; rfl
end Go.Den
