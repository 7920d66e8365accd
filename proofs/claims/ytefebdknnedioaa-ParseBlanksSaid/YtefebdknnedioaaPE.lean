import Derived.Test.YtefebdknnedioaaPD
import Derived.Test.YtefebdknnedioaaLxC
set_option linter.unusedVariables false
set_option linter.unusedSimpArgs false
set_option linter.unusedSectionVars false
/- ParseJoins. -/
namespace Go.Den
open Go.Proofs
set_option maxRecDepth 10000
theorem parseE_err {s : ByteArray} {a e : Int} (h : parseE s = .error (a, e)) : (e != 0) = true := by
  unfold parseE at h
  rcases ht : tokensE s with p | l
  · rw [ht] at h; cases h; exact tokensE_err ht
  · rw [ht] at h
    rcases (progL_err _ _ _ _ _ _ h).1 with rfl | rfl <;> rfl
theorem parseE_toks {s : ByteArray} {l : Rows} (h : parseE s = .ok l) : ∃ t, tokensE s = .ok t ∧ progP s.size t = .ok l := by
  unfold parseE at h
  rcases ht : tokensE s with p | t
  · rw [ht] at h; cases h
  · rw [ht] at h; exact ⟨t, rfl, h⟩
theorem tokensE_small {s : ByteArray} (h : s.size ≤ 4096) : tokensE s = tokens s := by unfold tokensE; rw [if_neg (by omega)]
theorem sim_shift (d : Nat) : ∀ l : Rows, Sim (l.map (shiftTok d)) l
  | [] => .nil
  | _ :: l => .cons ⟨rfl, rfl, rfl⟩ (sim_shift d l)
theorem suffix_map {f : Row → Row} {x q : Rows} (h : x <:+ q.map f) (hx : x ≠ []) : ∃ t x', x = f t :: x' ∧ t ∈ q := by
  obtain ⟨pre, hpre⟩ := h
  cases x with
  | nil => exact absurd rfl hx
  | cons t x' =>
    have hm : t ∈ q.map f := by rw [← hpre]; simp
    obtain ⟨u, hu, rfl⟩ := List.mem_map.1 hm
    exact ⟨u, x', rfl, hu⟩
theorem parse_join {a b : ByteArray} {l m : Rows} (ha : parseE a = .ok l) (hb : parseE b = .ok m) (hsz : a.size + 1 + b.size ≤ 4096) :
    (l.length + m.length ≤ 16 → parseE (a ++ ByteArray.mk #[10] ++ b) = .ok (l ++ m)) ∧ (16 < l.length + m.length → ∃ x, parseE (a ++ ByteArray.mk #[10] ++ b) = .error (x, 81) ∧ (a.size : Int) < x) := by
  obtain ⟨ta, hta, hpa⟩ := parseE_toks ha
  obtain ⟨tb, htb, hpb⟩ := parseE_toks hb
  have hsa := (tokensE_len hta).1
  have hsb := (tokensE_len htb).1
  rw [tokensE_small hsa] at hta
  rw [tokensE_small hsb] at htb
  have hT : (a ++ ByteArray.mk #[10] ++ b).size = a.size + 1 + b.size := by rw [app_size, app_size]; rfl
  have hj := tokens_join hta htb
  have hE : tokensE (a ++ ByteArray.mk #[10] ++ b) = .ok (ta ++ tb.map (shiftTok (a.size + 1))) := by rw [tokensE_small (by omega)]; exact hj
  have hp : parseE (a ++ ByteArray.mk #[10] ++ b) = progP (a ++ ByteArray.mk #[10] ++ b).size (ta ++ tb.map (shiftTok (a.size + 1))) := by unfold parseE; rw [hE]
  have hl16 := (progL_len _ _ _ _ _ hpa (by simp)).2
  obtain ⟨k', hk', hext⟩ := prog_ext 17 [] (q := tb.map (shiftTok (a.size + 1))) ⟨ta, Sim.refl ta, rfl⟩ ((a ++ ByteArray.mk #[10] ++ b).size : Int) (a.size : Int) hpa rfl
  have hmore := prog_more 17 [] m l (r := tb.map (shiftTok (a.size + 1))) (p := tb) ⟨tb.map (shiftTok (a.size + 1)), sim_shift _ tb, (List.append_nil _).symm⟩ ((a ++ ByteArray.mk #[10] ++ b).size : Int) (b.size : Int) hpb rfl k' hk' hl16
  have hp' : parseE (a ++ ByteArray.mk #[10] ++ b) = progL k' ((a ++ ByteArray.mk #[10] ++ b).size : Int) (tb.map (shiftTok (a.size + 1))) l := hp.trans hext
  rw [hp']
  refine ⟨hmore.1, fun h => ?_⟩
  obtain ⟨x, r'', q1, q2, q3⟩ := hmore.2 h
  refine ⟨x, q1, ?_⟩
  rw [q3]
  by_cases hr : r'' = []
  · subst hr
    rw [at_nil, hT]; omega
  · obtain ⟨t, x', rfl, _⟩ := suffix_map q2 hr
    show (a.size : Int) < (((Row.I t 3).toNat + (a.size + 1) : Nat) : Int)
    omega
theorem encG_ok (l : Rows) : encG (.ok l) = (((l.isEmpty, l), 0, 0, ()), ()) := rfl
theorem encG_error (a e : Int) : encG (.error (a, e)) = (((true, []), a, e, ()), ()) := rfl
theorem law08_ParseJoins_pure (s0 s1 : ByteArray) (_h0 : s0.size ≤ reachBytes) (_h1 : s1.size ≤ reachBytes) : ∃ n, law08_ParseJoins_v n s0 s1 = some (true, ()) := by
  refine ⟨6000, ?_⟩
  rw [law08_ParseJoins_e, program_pq (by omega), program_pq (by omega), live_n (by omega)]
  simp only [obind_some]
  rcases ha : parseE s0 with ⟨a, e⟩ | l
  · have := parseE_err ha
    rw [encG_error]
    simp only [this, cond_true]
  rcases hb : parseE s1 with ⟨a, e⟩ | m
  · have := parseE_err hb
    rw [encG_ok, encG_error]
    simp only [this, cond_true, show ((0 : Int) != 0) = false from rfl, cond_false]
  rw [encG_ok, encG_ok]
  simp only [show ((0 : Int) != 0) = false from rfl, cond_false]
  obtain ⟨ta, hta, hpa⟩ := parseE_toks ha
  obtain ⟨tb, htb, hpb⟩ := parseE_toks hb
  have hsa := (tokensE_len hta).1
  have hsb := (tokensE_len htb).1
  have hl16 := (progL_len _ _ _ _ _ hpa (by simp)).2
  have hm16 := (progL_len _ _ _ _ _ hpb (by simp)).2
  have hw : IntKind.wrap IntKind.i64 (4095 - (s1.size : Int)) = 4095 - (s1.size : Int) := wrap_i64 (by omega) (by omega)
  have hw2 : IntKind.wrap IntKind.i64 ((l.length : Int) + (m.length : Int)) = (l.length : Int) + (m.length : Int) := wrap_i64 (by omega) (by omega)
  rw [hw]
  by_cases hbig : (s0.size : Int) > 4095 - (s1.size : Int)
  · rw [decide_eq_true hbig, cond_true]
  · rw [decide_eq_false hbig, cond_false]
    have hT1 : (s0 ++ ByteArray.mk #[10]).size = s0.size + 1 := by rw [app_size]; rfl
    rw [if_pos (show s0.size + 1 < 4611686018427387904 by omega), if_pos (show (s0 ++ ByteArray.mk #[10]).size + s1.size < 4611686018427387904 by omega), program_pq (by omega)]
    simp only [obind_some]
    obtain ⟨j1, j2⟩ := parse_join ha hb (by omega)
    rw [hw2]
    by_cases h16 : (l.length : Int) + (m.length : Int) > 16
    · obtain ⟨x, hx, hlt⟩ := j2 (by omega)
      have hlt' : x > (s0.size : Int) := hlt
      rw [hx, encG_error, decide_eq_true h16, cond_true]
      simp only [hlt', decide_true, List.length_nil, cond_true]
      rfl
    · have hs : shortL 64 (l ++ m) := parseE_short (j1 (by omega))
      rw [j1 (by omega), encG_ok, decide_eq_false h16, cond_false]
      simp only [beq_self_eq_true, cond_true, appX, List.nil_append]
      rw [if_pos (show (0 + l.length) * 160 ≤ 140737488355328 by omega), if_pos (show (l.length + m.length) * 160 ≤ 140737488355328 by omega)]
      rw [Like_q (N := 64) (by unfold big; omega) (by omega) hs]
      simp only [obind_some, cond_true]
end Go.Den
/- ParseCuts. -/
namespace Go.Den
open Go.Proofs
set_option maxRecDepth 10000
theorem over_pre {p : Int → Bool} {x y : ByteArray} {j e : Nat} (hj : j ≤ x.size) (h : over p (x ++ y) j = e) (he : e ≤ x.size) : over p x j = e := by
  obtain ⟨h1, h2⟩ := over_app (p := p) (s := x) (w := y) hj
  have hl := over_le (p := p) (s := x) (j := j) hj
  by_cases hlt : over p x j < x.size
  · rw [← h1 hlt]; exact h
  · have e1 : over p x j = x.size := by omega
    have e2 := h2 e1
    have := (over_le (p := p) (s := x ++ y) (j := x.size) (by rw [app_size]; omega)).1
    omega
theorem skip_pre {x y : ByteArray} {j q : Nat} (hj : j ≤ x.size) (h : skip (x ++ y) j = q) (hq : q ≤ x.size) : skip x j = q := by
  obtain ⟨h1, h2⟩ := skip_app (s := x) (w := y) hj
  have hl := skip_le (s := x) (j := j) hj
  by_cases hlt : skip x j < x.size
  · rw [← h1 hlt]; exact h
  · have e1 : skip x j = x.size := by omega
    obtain ⟨b, hb⟩ := h2 e1
    omega
theorem oneS_pre {x y : ByteArray} {j : Nat} (hj : j < x.size) {kd v : Int} {t : ByteArray} {e : Nat} (h : oneS (x ++ y) j = some (kd, t, v, e)) (he : e ≤ x.size) : oneS x j = some (kd, t, v, e) := by
  have hsz := app_size x y
  have hb : bt (x ++ y) (j : Int) = bt x (j : Int) := bt_app1 hj
  unfold oneS at h ⊢
  rw [hb] at h
  cases h1 : isSmall (bt x (j : Int)) with
  | true =>
    rw [h1] at h
    simp only [cond_true] at h ⊢
    cases h
    have hov := over_pre (p := isInner) (by omega) rfl he
    rw [hov, ext_app he]
  | false =>
    rw [h1] at h
    simp only [cond_false] at h ⊢
    cases h2 : isGreat (bt x (j : Int)) with
    | true =>
      rw [h2] at h
      simp only [cond_true] at h ⊢
      cases h
      have hov := over_pre (p := isInner) (by omega) rfl he
      rw [hov, ext_app he]
    | false =>
      rw [h2] at h
      simp only [cond_false] at h ⊢
      cases h3 : (isDigit (bt x (j : Int)) || bt x (j : Int) == 45) with
      | true =>
        rw [h3] at h
        simp only [cond_true] at h ⊢
        have hjd := (over_le (p := isDigit) (s := x ++ y) (j := j + 1) (by omega)).1
        cases hn : numS (x ++ y) j (over isDigit (x ++ y) (j + 1)) with
        | none => rw [hn] at h; cases h
        | some m =>
          rw [hn] at h
          cases h
          have hov := over_pre (p := isDigit) (x := x) (y := y) (j := j + 1) (by omega) rfl he
          rw [hov]
          have hc : numS x j (over isDigit (x ++ y) (j + 1)) = numS (x ++ y) j (over isDigit (x ++ y) (j + 1)) :=
            numS_congr rfl (by omega) (by omega) (fun i hi => (bt_app1 (by omega)).symm)
          rw [hc, hn]
      | false =>
        rw [h3] at h
        simp only [cond_false] at h ⊢
        cases h4 : bt x (j : Int) == 34 with
        | true =>
          rw [h4] at h
          simp only [cond_true] at h ⊢
          cases h5 : (decide (over isPlain (x ++ y) (j + 1) < (x ++ y).size) && bt (x ++ y) ((over isPlain (x ++ y) (j + 1) : Nat) : Int) == 34) with
          | false => rw [h5] at h; cases h
          | true =>
            rw [h5] at h
            cases h
            have hov := over_pre (p := isPlain) (x := x) (y := y) (j := j + 1) (by omega) rfl (by omega)
            simp only [Bool.and_eq_true, decide_eq_true_eq] at h5
            have hbt : bt x ((over isPlain (x ++ y) (j + 1) : Nat) : Int) = bt (x ++ y) ((over isPlain (x ++ y) (j + 1) : Nat) : Int) := (bt_app1 (by omega)).symm
            rw [hov, hbt, h5.2, decide_eq_true (show over isPlain (x ++ y) (j + 1) < x.size by omega), ← ext_app (w := y) (show over isPlain (x ++ y) (j + 1) ≤ x.size by omega)]
            rfl
        | false =>
          rw [h4] at h
          simp only [cond_false] at h ⊢
          cases h5 : (bt x (j : Int) == 58 && (decide (j + 1 < (x ++ y).size) && bt (x ++ y) ((j + 1 : Nat) : Int) == 45)) with
          | true =>
            rw [h5] at h
            simp only [cond_true] at h
            cases h
            simp only [Bool.and_eq_true, decide_eq_true_eq] at h5
            have hbt : bt x ((j + 1 : Nat) : Int) = bt (x ++ y) ((j + 1 : Nat) : Int) := (bt_app1 (by omega)).symm
            rw [h5.1, hbt, h5.2.2, decide_eq_true (show j + 1 < x.size by omega), ← ext_app (w := y) (show j + 2 ≤ x.size by omega)]
            rfl
          | false =>
            rw [h5] at h
            simp only [cond_false] at h
            have h5' : (bt x (j : Int) == 58 && (decide (j + 1 < x.size) && bt x ((j + 1 : Nat) : Int) == 45)) = false := by
              by_cases hlt : j + 1 < x.size
              · have hbt : bt x ((j + 1 : Nat) : Int) = bt (x ++ y) ((j + 1 : Nat) : Int) := (bt_app1 hlt).symm
                rw [hbt, decide_eq_true hlt]
                rw [decide_eq_true (show j + 1 < (x ++ y).size by omega)] at h5
                exact h5
              · rw [decide_eq_false hlt]; simp
            rw [h5']
            simp only [cond_false]
            cases h6 : (bt x (j : Int) == 40 || (bt x (j : Int) == 41 || (bt x (j : Int) == 44 || (bt x (j : Int) == 46 || bt x (j : Int) == 58)))) with
            | true =>
              rw [h6] at h
              simp only [cond_true] at h ⊢
              cases h
              rw [ext_app he]
            | false => rw [h6] at h; cases h
theorem tokF_from (s : ByteArray) : ∀ n j T, j ≤ s.size → tokF s n j = .ok T → ∀ t ∈ T, (j : Int) ≤ Row.I t 3
  | 0, j, T, hj, h, t, ht => by cases h; cases ht
  | n + 1, j, T, hj, h, t, ht => by
    unfold tokF at h
    split at h
    · rename_i hlt
      split at h
      · cases h
      · rename_i kd x v e ho
        split at h
        · cases h
        · split at h
          · rename_i l hl
            cases h
            have he := oneS_next hlt ho
            have hsk := skip_le (s := s) (j := e) he.2
            rcases List.mem_cons.1 ht with rfl | ht
            · exact Int.le_refl _
            · have := tokF_from s n _ _ hsk.2 hl t ht
              omega
          · cases h
    · cases h; cases ht
/-- The tokens of a text that is cut off ahead of a token. -/
theorem tokF_cut {x y : ByteArray} : ∀ n j T, tokF (x ++ y) n j = .ok T → j ≤ x.size → ∀ k, (hk : k < T.length) → Row.I T[k] 3 = (x.size : Int) → tokF x n j = .ok (T.take k)
  | 0, j, T, h, hj, k, hk, hc => by cases h; simp at hk
  | n + 1, j, T, h, hj, k, hk, hc => by
    have hsz := app_size x y
    unfold tokF at h
    split at h
    · rename_i hlt
      split at h
      · cases h
      · rename_i kd t v e ho
        split at h
        · cases h
        · rename_i h32
          split at h
          · rename_i l hl
            cases h
            have he := oneS_next hlt ho
            have hsk := skip_le (s := x ++ y) (j := e) he.2
            cases k with
            | zero =>
              have : (j : Int) = (x.size : Int) := hc
              have : j = x.size := by omega
              subst this
              rw [tokF_end]; rfl
            | succ k =>
              have hk' : k < l.length := by simpa using hk
              have hc' : Row.I l[k] 3 = (x.size : Int) := by simpa using hc
              have hfrom := tokF_from (x ++ y) n _ _ hsk.2 hl l[k] (List.getElem_mem hk')
              have hle : skip (x ++ y) e ≤ x.size := by omega
              have hjlt : j < x.size := by omega
              have ho' := oneS_pre hjlt ho (by omega)
              have hs' := skip_pre (x := x) (y := y) (j := e) (by omega) rfl hle
              have ih := tokF_cut n _ l hl hle k hk' hc'
              unfold tokF
              rw [if_pos hjlt, ho']
              simp only [h32, if_false]
              rw [hs', ih]; rfl
          · cases h
    · cases h; simp at hk
theorem extract_split (s : ByteArray) {c : Nat} (hc : c ≤ s.size) : s = s.extract 0 c ++ s.extract c s.size := by
  have hl : s.data.toList.length = s.size := by simp
  have key : s.data.toList = List.take c s.data.toList ++ List.take (s.size - c) (List.drop c s.data.toList) := by
    rw [List.take_of_length_le (l := List.drop c s.data.toList) (by rw [List.length_drop, hl]; omega), List.take_append_drop]
  apply ByteArray.ext
  rw [ByteArray.data_append, ByteArray.data_extract, ByteArray.data_extract]
  apply Array.ext'
  rw [Array.toList_append, Array.toList_extract, Array.toList_extract]
  simpa using key
theorem tokens_cut {s : ByteArray} {T : Rows} (h : tokens s = .ok T) {k c : Nat} (hk : k < T.length) (hc : Row.I T[k] 3 = (c : Int)) (hcs : c ≤ s.size) : tokens (s.extract 0 c) = .ok (T.take k) := by
  have hx : (s.extract 0 c).size = c := by rw [size_ext (Nat.zero_le _) hcs]; omega
  have hs := extract_split s hcs
  generalize hxe : s.extract 0 c = x at hs hx ⊢
  generalize s.extract c s.size = y at hs
  subst hs
  have hsz := app_size x y
  unfold tokens at h ⊢
  have h0 := skip_le (s := x ++ y) (j := 0) (Nat.zero_le _)
  have hf := tokF_from _ _ _ _ h0.2 h T[k] (List.getElem_mem hk)
  have hle : skip (x ++ y) 0 ≤ x.size := by omega
  have hcut := tokF_cut _ _ T h hle k hk (by rw [hc, hx])
  rw [skip_pre (x := x) (y := y) (Nat.zero_le _) rfl hle, ← hcut]
  exact tokF_more x _ _ _ hle (by omega) (by omega)
theorem tmod_in {j L : Int} (hL : 0 < L) (hb : L ≤ 100000) : 0 ≤ Int.tmod (IntKind.wrap IntKind.i64 (Int.tmod j L + L)) L ∧ Int.tmod (IntKind.wrap IntKind.i64 (Int.tmod j L + L)) L < L := by
  have h1 := Int.lt_tmod_of_pos j hL
  have h2 := Int.tmod_lt_of_pos j hL
  rw [wrap_i64 (by omega) (by omega)]
  exact ⟨Int.tmod_nonneg _ (by omega), Int.tmod_lt_of_pos _ hL⟩
theorem parse_cut {s : ByteArray} {T l : Rows} (hs : s.size ≤ 4096) (hT : tokens s = .ok T) (hp : progP s.size T = .ok l) {k c : Nat} (hk : k < T.length) (hc : Row.I T[k] 3 = (c : Int)) (hcs : c ≤ s.size) :
    (∃ l' l2, parseE (s.extract 0 c) = .ok l' ∧ l = l' ++ l2 ∧ l2 ≠ []) ∨ parseE (s.extract 0 c) = .error ((c : Int), 80) := by
  have hx : (s.extract 0 c).size = c := by rw [size_ext (Nat.zero_le _) hcs]; omega
  have ht := tokens_cut hT hk hc hcs
  have hE : parseE (s.extract 0 c) = progP (c : Int) (T.take k) := by
    unfold parseE
    rw [tokensE_small (by omega), ht]
    simp only [hx]
  rw [hE]
  refine prog_cut 17 [] (q := T.drop k) (r := T) ⟨T.take k, Sim.refl _, (List.take_append_drop k T).symm⟩ ?_ (s.size : Int) (c : Int) hp rfl
  intro h
  have := congrArg List.length h
  simp at this
  omega
theorem law08_ParseCuts_pure (s0 : ByteArray) (j1 : Int) (_h0 : s0.size ≤ reachBytes) (_h1 : (Lit.int .i64 j1).wf = true) : ∃ n, law08_ParseCuts_v n s0 j1 = some (true, ()) := by
  refine ⟨6000, ?_⟩
  rw [law08_ParseCuts_e, program_pq (by omega), ref_Tokens_q (by omega), live_n (by omega)]
  simp only [obind_some]
  rcases ha : parseE s0 with ⟨a, e⟩ | l
  · have := parseE_err ha
    obtain ⟨v, hv⟩ : ∃ v, tokRes true [] (tokensE s0) = some v := by
      rcases tokensE s0 with p | t <;> exact ⟨_, rfl⟩
    rw [encG_error, hv]
    simp only [obind_some, this, cond_true]
  obtain ⟨T, hT, hp⟩ := parseE_toks ha
  have hsz := tokensE_len hT
  rw [encG_ok, hT]
  simp only [tokRes, obind_some, show ((0 : Int) != 0) = false from rfl, cond_false, List.nil_append]
  rw [tokensE_small hsz.1] at hT
  by_cases h0 : T.length = 0
  · rw [show (((T.length : Nat) : Int) == 0) = true by simp [h0], cond_true]
  · rw [show (((T.length : Nat) : Int) == 0) = false from beq_eq_false_iff_ne.2 (by omega), cond_false]
    have hL : ¬ ((T.length : Nat) : Int) = 0 := by omega
    rw [if_neg hL, if_neg hL]
    obtain ⟨h2, h3⟩ := tmod_in (j := j1) (L := ((T.length : Nat) : Int)) (by omega) (by omega)
    generalize Int.tmod (IntKind.wrap IntKind.i64 (Int.tmod j1 ((T.length : Nat) : Int) + ((T.length : Nat) : Int))) ((T.length : Nat) : Int) = z at h2 h3 ⊢
    obtain ⟨k, rfl⟩ : ∃ k : Nat, z = (k : Int) := ⟨z.toNat, by omega⟩
    have hk : k < T.length := by omega
    rw [if_pos h2, if_pos h3]
    simp only [Int.toNat_natCast, getD_get hk]
    have hsk := skip_le (s := s0) (j := 0) (Nat.zero_le _)
    obtain ⟨kd', x', v', c, hrow, hclt⟩ := tokF_fine _ _ _ hT T[k] (List.getElem_mem hk)
    have hc : Row.I T[k] 3 = (c : Int) := by rw [hrow]; rfl
    simp only [hc, Int.toNat_natCast]
    rw [if_pos (by omega), if_pos (by omega), program_pq (by omega)]
    simp only [obind_some]
    rcases parse_cut hsz.1 hT hp hk hc (by omega) with ⟨l', l2, hl', hl, hne⟩ | hl'
    · have hs : shortL 64 l' := parseE_short hl'
      have hlen : l.length = l'.length + l2.length := by rw [hl]; simp
      have h2 : 0 < l2.length := List.length_pos_iff.2 hne
      rw [hl', encG_ok]
      simp only [beq_self_eq_true, cond_true]
      rw [decide_eq_true (show ((l'.length : Nat) : Int) < ((l.length : Nat) : Int) by omega), cond_true, if_pos (show ((l'.length : Nat) : Int) ≤ ((l.length : Nat) : Int) by omega)]
      have hd : List.drop 0 (List.take l'.length l) = l' := by rw [hl]; simp
      rw [hd, Like_q (N := 64) (by unfold big; omega) (by omega) hs]
      simp only [obind_some, cond_true]
    · rw [hl', encG_error]
      have hx : (s0.extract 0 c).size = c := by rw [size_ext (Nat.zero_le _) (by omega)]; omega
      rw [hx]
      simp only [show ((80 : Int) == 0) = false from rfl, cond_false, beq_self_eq_true, cond_true]
end Go.Den
