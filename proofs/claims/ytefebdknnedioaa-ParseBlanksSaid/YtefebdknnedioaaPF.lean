import Derived.Test.YtefebdknnedioaaPE
set_option linter.unusedVariables false
set_option linter.unusedSimpArgs false
set_option linter.unusedSectionVars false
/- ParseBlanks. -/
namespace Go.Den
open Go.Proofs
set_option maxRecDepth 10000
/-- What stands ahead of a text that ends no token of it. -/
structure Apart (w : ByteArray) : Prop where
  pos : 0 < w.size
  inner : isInner (bt w 0) = false
  minus : (bt w 0 == 45) = false
theorem over_ext {p : Int → Bool} {x w : ByteArray} {j : Nat} (hj : j ≤ x.size) (hw : p (bt w 0) = false) : over p (x ++ w) j = over p x j := over_app_stop hj hw
theorem oneS_ext {x w : ByteArray} (hw : Apart w) {j : Nat} (hj : j < x.size) {kd v : Int} {t : ByteArray} {e : Nat} (h : oneS x j = some (kd, t, v, e)) : oneS (x ++ w) j = some (kd, t, v, e) := by
  have hsz := app_size x w
  have hb : bt (x ++ w) (j : Int) = bt x (j : Int) := bt_app1 hj
  have he := (oneS_next hj h).2
  unfold oneS at h ⊢
  rw [hb]
  cases h1 : isSmall (bt x (j : Int)) with
  | true =>
    rw [h1] at h
    simp only [cond_true] at h ⊢
    cases h
    rw [over_ext (by omega) hw.inner, ext_app he]
  | false =>
    rw [h1] at h
    simp only [cond_false] at h ⊢
    cases h2 : isGreat (bt x (j : Int)) with
    | true =>
      rw [h2] at h
      simp only [cond_true] at h ⊢
      cases h
      rw [over_ext (by omega) hw.inner, ext_app he]
    | false =>
      rw [h2] at h
      simp only [cond_false] at h ⊢
      cases h3 : (isDigit (bt x (j : Int)) || bt x (j : Int) == 45) with
      | true =>
        rw [h3] at h
        simp only [cond_true] at h ⊢
        have hjd := (over_le (p := isDigit) (s := x) (j := j + 1) (by omega)).1
        rw [over_ext (p := isDigit) (by omega) (digit_inner hw.inner)]
        cases hn : numS x j (over isDigit x (j + 1)) with
        | none => rw [hn] at h; cases h
        | some m =>
          rw [hn] at h
          cases h
          have hc : numS (x ++ w) j (over isDigit x (j + 1)) = numS x j (over isDigit x (j + 1)) :=
            numS_congr rfl (by omega) (by omega) (fun i hi => bt_app1 (by omega))
          rw [hc, hn]
      | false =>
        rw [h3] at h
        simp only [cond_false] at h ⊢
        cases h4 : bt x (j : Int) == 34 with
        | true =>
          rw [h4] at h
          simp only [cond_true] at h ⊢
          cases h5 : (decide (over isPlain x (j + 1) < x.size) && bt x ((over isPlain x (j + 1) : Nat) : Int) == 34) with
          | false => rw [h5] at h; cases h
          | true =>
            rw [h5] at h
            cases h
            simp only [Bool.and_eq_true, decide_eq_true_eq] at h5
            have hov := (over_app (p := isPlain) (s := x) (w := w) (j := j + 1) (by omega)).1 h5.1
            have hbt : bt (x ++ w) ((over isPlain x (j + 1) : Nat) : Int) = bt x ((over isPlain x (j + 1) : Nat) : Int) := bt_app1 h5.1
            rw [hov, hbt, h5.2, decide_eq_true (show over isPlain x (j + 1) < (x ++ w).size by omega), ext_app (show over isPlain x (j + 1) ≤ x.size by omega)]
            rfl
        | false =>
          rw [h4] at h
          simp only [cond_false] at h ⊢
          cases h5 : (bt x (j : Int) == 58 && (decide (j + 1 < x.size) && bt x ((j + 1 : Nat) : Int) == 45)) with
          | true =>
            rw [h5] at h
            simp only [cond_true] at h
            cases h
            simp only [Bool.and_eq_true, decide_eq_true_eq] at h5
            have hbt : bt (x ++ w) ((j + 1 : Nat) : Int) = bt x ((j + 1 : Nat) : Int) := bt_app1 h5.2.1
            rw [h5.1, hbt, h5.2.2, decide_eq_true (show j + 1 < (x ++ w).size by omega), ext_app (show j + 2 ≤ x.size by omega)]
            rfl
          | false =>
            rw [h5] at h
            simp only [cond_false] at h
            have h5' : (bt x (j : Int) == 58 && (decide (j + 1 < (x ++ w).size) && bt (x ++ w) ((j + 1 : Nat) : Int) == 45)) = false := by
              by_cases hlt : j + 1 < x.size
              · have hbt : bt (x ++ w) ((j + 1 : Nat) : Int) = bt x ((j + 1 : Nat) : Int) := bt_app1 hlt
                rw [hbt, decide_eq_true (show j + 1 < (x ++ w).size by omega)]
                rw [decide_eq_true hlt] at h5
                exact h5
              · have hj1 : j + 1 = x.size := by omega
                have hbt : bt (x ++ w) ((j + 1 : Nat) : Int) = bt w 0 := by
                  have := bt_app2 (s := x) (t := w) (k := 0)
                  rw [hj1]
                  exact this
                rw [hbt, hw.minus]; simp
            rw [h5']
            simp only [cond_false]
            cases h6 : (bt x (j : Int) == 40 || (bt x (j : Int) == 41 || (bt x (j : Int) == 44 || (bt x (j : Int) == 46 || bt x (j : Int) == 58)))) with
            | true =>
              rw [h6] at h
              simp only [cond_true] at h ⊢
              cases h
              rw [ext_app he]
            | false => rw [h6] at h; cases h
/-- Where the skipping stops within a text, it stops out of a remark. -/
theorem skipF_reach {y z : ByteArray} {d : Nat} : ∀ k b j, skipF y k b j = d → d < j + k → (∀ i, j ≤ i → i < d → bt z (i : Int) = bt y (i : Int)) → ∀ k2, ∃ b', (j = d → b' = b) ∧ skipF z (k2 + (d - j)) b j = skipF z k2 false d
  | 0, b, j, h, hd, hz, k2 => by
    have h' : j = d := h
    omega
  | k + 1, b, j, h, hd, hz, k2 => by
    have hle0 := (skipF_le y (k + 1) b j).1
    rw [h] at hle0
    rw [skipF_succ] at h
    by_cases hjd : j = d
    · subst hjd
      refine ⟨b, fun _ => rfl, ?_⟩
      cases b with
      | false => simp
      | true =>
        exfalso
        have hle : ∀ k b j, j ≤ skipF y k b j := fun k b j => (skipF_le y k b j).1
        cases h1 : bt y (j : Int) == 37 with
        | true => rw [h1] at h; simp only [cond_true] at h; have := hle k true (j + 1); omega
        | false =>
          rw [h1] at h
          simp only [cond_false] at h
          cases h2 : bt y (j : Int) == 10 with
          | true => rw [h2] at h; simp only [cond_true] at h; have := hle k false (j + 1); omega
          | false =>
            rw [h2] at h
            simp only [cond_false, Bool.not_true, Bool.false_and] at h
            have := hle k true (j + 1); omega
    · have hlt : j < d := by omega
      have hbt := hz j (Nat.le_refl _) hlt
      have e1 : k2 + (d - j) = (k2 + (d - (j + 1))) + 1 := by omega
      refine ⟨b, fun h => rfl, ?_⟩
      rw [e1, skipF_succ, hbt]
      cases h1 : bt y (j : Int) == 37 with
      | true =>
        rw [h1] at h
        simp only [cond_true] at h ⊢
        obtain ⟨_, _, h3⟩ := skipF_reach k true (j + 1) h (by omega) (fun i a c => hz i (by omega) c) k2
        exact h3
      | false =>
        rw [h1] at h
        simp only [cond_false] at h ⊢
        cases h2 : bt y (j : Int) == 10 with
        | true =>
          rw [h2] at h
          simp only [cond_true] at h ⊢
          obtain ⟨_, _, h3⟩ := skipF_reach k false (j + 1) h (by omega) (fun i a c => hz i (by omega) c) k2
          exact h3
        | false =>
          rw [h2] at h
          simp only [cond_false] at h ⊢
          cases h3 : (!b && !isBlank (bt y (j : Int))) with
          | true => rw [h3] at h; simp only [cond_true] at h; omega
          | false =>
            rw [h3] at h
            simp only [cond_false] at h ⊢
            obtain ⟨_, _, h4⟩ := skipF_reach k b (j + 1) h (by omega) (fun i a c => hz i (by omega) c) k2
            exact h4
/-- Blanks and remarks that are closed. -/
structure Shut (w : ByteArray) : Prop extends Apart w where
  over : ∀ (R : ByteArray) (k : Nat), skipF (w ++ R) (k + w.size) false 0 = skipF (w ++ R) k false w.size
theorem shut_w {w : ByteArray} (h : w = ByteArray.mk #[32] ∨ w = ByteArray.mk #[10] ∨ w = ByteArray.mk #[32, 37, 32, 120, 40, 10] ∨ w = ByteArray.mk #[9, 13, 10, 32]) : Shut w := by
  have key : ∀ w : ByteArray, Apart w → (skipF (w ++ ByteArray.mk #[97]) (1 + w.size) false 0 = w.size) → w.size ≤ 6 → Shut w := by
    intro w hA hk _
    refine ⟨hA, fun R k => ?_⟩
    obtain ⟨_, _, h3⟩ := skipF_reach (y := w ++ ByteArray.mk #[97]) (z := w ++ R) (1 + w.size) false 0 hk (by omega) (fun i _ hi => by rw [bt_app1 hi, bt_app1 hi]) k
    simpa using h3
  rcases h with rfl | rfl | rfl | rfl
  · exact key _ ⟨by decide, by decide, by decide⟩ (by decide) (by decide)
  · exact key _ ⟨by decide, by decide, by decide⟩ (by decide) (by decide)
  · exact key _ ⟨by decide, by decide, by decide⟩ (by decide) (by decide)
  · exact key _ ⟨by decide, by decide, by decide⟩ (by decide) (by decide)
theorem apart_app {w R : ByteArray} (h : Apart w) : Apart (w ++ R) := by
  have hb : bt (w ++ R) 0 = bt w 0 := by
    have := bt_app1 (s := w) (t := R) (k := 0) h.pos
    simpa using this
  exact ⟨by rw [app_size]; have := h.pos; omega, by rw [hb]; exact h.inner, by rw [hb]; exact h.minus⟩
/-- A token's first byte is neither blank nor a remark's. -/
theorem skip_tok {R : ByteArray} {t} (hR : 0 < R.size) (h : oneS R 0 = some t) (k : Nat) : skipF R k false 0 = 0 := by
  have hc : (bt R (0 : Nat) == 37) = false ∧ isBlank (bt R (0 : Nat)) = false := by
    unfold oneS at h
    have hcast : ((0 : Nat) : Int) = 0 := rfl
    rw [hcast] at h ⊢
    generalize bt R 0 = c at h
    by_cases h37 : c = 37 ∨ c = 32 ∨ c = 9 ∨ c = 10 ∨ c = 13
    · exfalso
      have e1 : isSmall c = false := by unfold isSmall; simp; omega
      have e2 : isGreat c = false := by unfold isGreat; simp; omega
      have e3 : isDigit c = false := by unfold isDigit; simp; omega
      have e4 : (c == 45) = false := by simp; omega
      have e5 : (c == 34) = false := by simp; omega
      have e6 : (c == 58) = false := by simp; omega
      have e7 : (c == 40) = false := by simp; omega
      have e8 : (c == 41) = false := by simp; omega
      have e9 : (c == 44) = false := by simp; omega
      have e10 : (c == 46) = false := by simp; omega
      simp only [e1, e2, e3, e4, e5, e6, e7, e8, e9, e10, cond_false, Bool.or_self, Bool.false_and] at h
      cases h
    · refine ⟨by simp; omega, ?_⟩
      unfold isBlank
      simp; omega
  cases k with
  | zero => rfl
  | succ k =>
    have h10 : (bt R (0 : Nat) == 10) = false := by
      have := hc.2
      unfold isBlank at this
      simp only [Bool.or_eq_false_iff] at this
      exact this.2.2.1
    rw [skipF_succ, hc.1, h10, hc.2]; rfl
/-- The skipping, over what was put in. -/
theorem skip_put {seg y2 w R : ByteArray} (hw : Shut w) {e : Nat} (he : e ≤ seg.size) (h : skip (seg ++ y2) e = seg.size) (hy : 0 < y2.size) (hR : ∀ k, skipF R k false 0 = 0) : skip (seg ++ (w ++ R)) e = seg.size + w.size := by
  unfold skip at h ⊢
  have hsz : (seg ++ y2).size = seg.size + y2.size := app_size _ _
  have hsz2 : (seg ++ (w ++ R)).size = seg.size + (w.size + R.size) := by rw [app_size, app_size]
  obtain ⟨_, _, h3⟩ := skipF_reach (y := seg ++ y2) (z := seg ++ (w ++ R)) ((seg ++ y2).size - e) false e h (by omega) (fun i _ hi => by rw [bt_app1 hi, bt_app1 hi]) (w.size + R.size)
  have e1 : (seg ++ (w ++ R)).size - e = w.size + R.size + (seg.size - e) := by omega
  rw [e1, h3]
  have h4 := skipF_shift (u := seg) (w := w ++ R) (w.size + R.size) false 0
  rw [Nat.add_zero] at h4
  rw [h4, Nat.add_comm w.size R.size, hw.over R R.size]
  have h5 := skipF_shift (u := w) (w := R) R.size false 0
  rw [Nat.add_zero] at h5
  rw [h5, hR]; omega
/-- A text from a place on, with w ahead of each token but the first. -/
def wideF (s w : ByteArray) (from_ : Nat) : Rows → ByteArray
  | [] => s.extract from_ s.size
  | t :: l => s.extract from_ (Row.I t 3).toNat ++ (w ++ wideF s w (Row.I t 3).toNat l)
theorem Sim.trans' : ∀ {a b c : Rows}, Sim a b → Sim b c → Sim a c
  | _, _, _, .nil, h => h
  | _, _, _, .cons h1 h2, .cons h3 h4 => .cons ⟨h1.1.trans h3.1, h1.2.1.trans h3.2.1, h1.2.2.trans h3.2.2⟩ (Sim.trans' h2 h4)
theorem extract_split2 (s : ByteArray) {a c : Nat} (hac : a ≤ c) (hc : c ≤ s.size) : s.extract a s.size = s.extract a c ++ s.extract c s.size := by
  have hl : s.data.toList.length = s.size := by simp
  apply ByteArray.ext
  rw [ByteArray.data_append, ByteArray.data_extract, ByteArray.data_extract, ByteArray.data_extract]
  apply Array.ext'
  rw [Array.toList_append, Array.toList_extract, Array.toList_extract, Array.toList_extract]
  have key : List.take (s.size - a) (List.drop a s.data.toList) = List.take (c - a) (List.drop a s.data.toList) ++ List.take (s.size - c) (List.drop c s.data.toList) := by
    rw [List.take_of_length_le (l := List.drop a s.data.toList) (by rw [List.length_drop, hl]; omega), List.take_of_length_le (l := List.drop c s.data.toList) (by rw [List.length_drop, hl]; omega)]
    have := List.take_append_drop (c - a) (List.drop a s.data.toList)
    rw [List.drop_drop, show a + (c - a) = c by omega] at this
    exact this.symm
  simpa using key
theorem wide_tok (s w : ByteArray) (hw : Shut w) : ∀ (n q : Nat) (t : Row) (l : Rows), q ≤ s.size → s.size - q < n → tokF s n q = .ok (t :: l) → (∃ z, oneS (wideF s w q l) 0 = some z) ∧ 0 < (wideF s w q l).size ∧ ∃ T', Sim T' (t :: l) ∧ ∀ n', (wideF s w q l).size < n' → tokF (wideF s w q l) n' 0 = .ok T'
  | 0, q, t, l, hq, hf, h => by cases h
  | n + 1, q, t, l, hq, hf, h => by
    have hsplit := extract_split s hq
    have hu : (s.extract 0 q).size = q := by rw [size_ext (Nat.zero_le _) hq]; omega
    unfold tokF at h
    split at h
    case isFalse => cases h
    rename_i hlt
    split at h
    · cases h
    rename_i kd x v e ho
    split at h
    · cases h
    rename_i h32
    split at h
    case h_2 => cases h
    rename_i l0 hl
    cases h
    have he := oneS_next hlt ho
    have hsk := skip_le (s := s) (j := e) he.2
    have hys : (s.extract q s.size).size = s.size - q := by rw [size_ext hq (Nat.le_refl _)]
    -- the token within the rest of the text
    have ho' : oneS (s.extract q s.size) 0 = some (kd, x, v, e - q) := by
      have h1 := oneS_shift (u := s.extract 0 q) (b := s.extract q s.size) (j := 0) (by omega)
      rw [← hsplit, hu, Nat.add_zero, ho] at h1
      cases hz : oneS (s.extract q s.size) 0 with
      | none => rw [hz] at h1; cases h1
      | some z =>
        rw [hz] at h1
        obtain ⟨z1, z2, z3, z4⟩ := z
        simp only [Option.map_some, Option.some.injEq, Prod.mk.injEq] at h1
        obtain ⟨rfl, rfl, rfl, h4⟩ := h1
        have hz4 : z4 = e - q := by omega
        rw [hz4]
    have hskip' : q + skip (s.extract q s.size) (e - q) = skip s e := by
      have := skip_shift (u := s.extract 0 q) (w := s.extract q s.size) (j := e - q)
      rw [← hsplit, hu, show q + (e - q) = e by omega] at this
      omega
    cases l with
    | nil =>
      show (∃ z, oneS (s.extract q s.size) 0 = some z) ∧ 0 < (s.extract q s.size).size ∧ _
      refine ⟨⟨_, ho'⟩, by omega, [tokRow kd x v 0], .cons ⟨rfl, rfl, rfl⟩ .nil, fun n' hn' => ?_⟩
      show tokF (s.extract q s.size) n' 0 = _
      have hn'' : (s.extract q s.size).size < n' := hn'
      obtain ⟨n', rfl⟩ : ∃ z, n' = z + 1 := ⟨n' - 1, by omega⟩
      unfold tokF
      rw [if_pos (by omega), ho']
      simp only [h32, if_false]
      -- nothing stands behind
      have hend : ∀ k j, j ≤ s.size → s.size - j < k → tokF s n j = .ok [] → n ≥ 1 → j = s.size := by
        intro k j hj _ h0 hn
        obtain ⟨n, rfl⟩ : ∃ z, n = z + 1 := ⟨n - 1, by omega⟩
        unfold tokF at h0
        split at h0
        · split at h0
          · cases h0
          · split at h0
            · cases h0
            · split at h0 <;> cases h0
        · omega
      cases n with
      | zero =>
        exfalso
        omega
      | succ n =>
        have hz := hend (s.size + 1) _ hsk.2 (by omega) hl (by omega)
        have : skip (s.extract q s.size) (e - q) = (s.extract q s.size).size := by omega
        rw [this, tokF_end]
    | cons t2 l2 =>
      have ht2 : Row.I t2 3 = ((skip s e : Nat) : Int) := by
        cases n with
        | zero => cases hl
        | succ n =>
          unfold tokF at hl
          split at hl
          · split at hl
            · cases hl
            · split at hl
              · cases hl
              · split at hl
                · cases hl; rfl
                · cases hl
          · cases hl
      have hq2 : (Row.I t2 3).toNat = skip s e := by omega
      obtain ⟨⟨z, hz⟩, hpos, T2, hs2, htok2⟩ := wide_tok s w hw n (skip s e) t2 l2 hsk.2 (by omega) hl
      have hlt2 : skip s e < s.size := by
        cases n with
        | zero => cases hl
        | succ n =>
          unfold tokF at hl
          split at hl
          · assumption
          · cases hl
      show (∃ z, oneS (s.extract q (Row.I t2 3).toNat ++ (w ++ wideF s w (Row.I t2 3).toNat l2)) 0 = some z) ∧ 0 < (s.extract q (Row.I t2 3).toNat ++ (w ++ wideF s w (Row.I t2 3).toNat l2)).size ∧ ∃ T', Sim T' _ ∧ ∀ n', (s.extract q (Row.I t2 3).toNat ++ (w ++ wideF s w (Row.I t2 3).toNat l2)).size < n' → tokF (s.extract q (Row.I t2 3).toNat ++ (w ++ wideF s w (Row.I t2 3).toNat l2)) n' 0 = .ok T'
      rw [hq2]
      have hseg : (s.extract q (skip s e)).size = skip s e - q := by rw [size_ext (by omega) hsk.2]
      have hsp2 := extract_split2 s (a := q) (c := skip s e) (by omega) hsk.2
      have hy2 : (s.extract (skip s e) s.size).size = s.size - skip s e := by rw [size_ext hsk.2 (Nat.le_refl _)]
      rw [hsp2] at ho' hskip'
      generalize s.extract q (skip s e) = seg at ho' hseg hskip' ⊢
      generalize s.extract (skip s e) s.size = y2 at ho' hskip' hy2
      generalize wideF s w (skip s e) l2 = R2 at hz hpos htok2 ⊢
      have ho1 : oneS seg 0 = some (kd, x, v, e - q) := oneS_pre (by omega) ho' (by omega)
      have ho2 : oneS (seg ++ (w ++ R2)) 0 = some (kd, x, v, e - q) := oneS_ext (apart_app hw.toApart) (by omega) ho1
      have hsk2 : skip (seg ++ (w ++ R2)) (e - q) = seg.size + w.size := skip_put (y2 := y2) hw (by omega) (by omega) (by omega) (skip_tok hpos hz)
      have hwp := hw.pos
      have hsz : (seg ++ (w ++ R2)).size = seg.size + (w.size + R2.size) := by rw [app_size, app_size]
      refine ⟨⟨_, ho2⟩, by omega, tokRow kd x v 0 :: T2.map (shiftTok (seg.size + w.size)), .cons ⟨rfl, rfl, rfl⟩ ((sim_shift _ T2).trans' hs2), fun n' hn' => ?_⟩
      obtain ⟨n', rfl⟩ : ∃ z, n' = z + 1 := ⟨n' - 1, by omega⟩
      unfold tokF
      rw [if_pos (by omega), ho2]
      simp only [h32, if_false]
      rw [hsk2]
      have hassoc : seg ++ (w ++ R2) = (seg ++ w) ++ R2 := by apply ByteArray.ext; simp [ByteArray.data_append, Array.append_assoc]
      have hsh := tokF_shift (u := seg ++ w) (b := R2) n' 0 (Nat.zero_le _)
      rw [app_size, Nat.add_zero] at hsh
      rw [hassoc, hsh, htok2 n' (by omega)]
      rfl
end Go.Den
/- ParseBlanks: the law. -/
namespace Go.Den
open Go.Proofs
set_option maxRecDepth 10000
theorem wide_tokens {s w : ByteArray} (hw : Shut w) {T : Rows} (hT : tokens s = .ok T) : ∃ T', Sim T' T ∧ tokens (wideF s w 0 T) = .ok T' := by
  unfold tokens at hT
  have h0 := skip_le (s := s) (j := 0) (Nat.zero_le _)
  cases T with
  | nil =>
    have hs : wideF s w 0 [] = s := by
      show s.extract 0 s.size = s
      have := extract_split s (c := 0) (Nat.zero_le _)
      have h2 : s.extract 0 0 = ByteArray.mk #[] := by apply ByteArray.ext; simp [ByteArray.data_extract]
      rw [h2] at this
      have h3 : ByteArray.mk #[] ++ s.extract 0 s.size = s.extract 0 s.size := by apply ByteArray.ext; simp [ByteArray.data_append]
      rw [h3] at this
      exact this.symm
    exact ⟨[], .nil, by rw [hs]; exact hT⟩
  | cons t l =>
    obtain ⟨⟨z, hz⟩, hpos, T2, hs2, htok2⟩ := wide_tok s w hw _ _ t l h0.2 (by omega) hT
    have ht : Row.I t 3 = ((skip s 0 : Nat) : Int) := by
      unfold tokF at hT
      split at hT
      · split at hT
        · cases hT
        · split at hT
          · cases hT
          · split at hT
            · cases hT; rfl
            · cases hT
      · cases hT
    have hlt : skip s 0 < s.size := by
      unfold tokF at hT
      split at hT
      · assumption
      · cases hT
    have hq : (Row.I t 3).toNat = skip s 0 := by omega
    show ∃ T', Sim T' _ ∧ tokens (s.extract 0 (Row.I t 3).toNat ++ (w ++ wideF s w (Row.I t 3).toNat l)) = .ok T'
    rw [hq]
    have hseg : (s.extract 0 (skip s 0)).size = skip s 0 := by rw [size_ext (Nat.zero_le _) h0.2]; omega
    have hsp := extract_split s h0.2
    have hy2 : (s.extract (skip s 0) s.size).size = s.size - skip s 0 := by rw [size_ext h0.2 (Nat.le_refl _)]
    have hsk : skip (s.extract 0 (skip s 0) ++ s.extract (skip s 0) s.size) 0 = (s.extract 0 (skip s 0)).size := by rw [← hsp, hseg]
    generalize s.extract 0 (skip s 0) = seg at hseg hsk ⊢
    generalize s.extract (skip s 0) s.size = y2 at hsk hy2
    generalize wideF s w (skip s 0) l = R2 at hz hpos htok2 ⊢
    have hsk2 : skip (seg ++ (w ++ R2)) 0 = seg.size + w.size := skip_put (y2 := y2) hw (Nat.zero_le _) hsk (by omega) (skip_tok hpos hz)
    have hsz : (seg ++ (w ++ R2)).size = seg.size + (w.size + R2.size) := by rw [app_size, app_size]
    have hassoc : seg ++ (w ++ R2) = (seg ++ w) ++ R2 := by apply ByteArray.ext; simp [ByteArray.data_append, Array.append_assoc]
    refine ⟨T2.map (shiftTok (seg.size + w.size)), (sim_shift _ T2).trans' hs2, ?_⟩
    unfold tokens
    rw [hsk2]
    have hN : R2.size < (seg ++ (w ++ R2)).size + 1 := by omega
    generalize (seg ++ (w ++ R2)).size + 1 = N at hN ⊢
    have hsh := tokF_shift (u := seg ++ w) (b := R2) N 0 (Nat.zero_le _)
    rw [Nat.add_zero, app_size seg w, ← hassoc] at hsh
    rw [hsh, htok2 N hN]
    rfl
theorem parse_wide {s w : ByteArray} (hw : Shut w) {T : Rows} (hs : s.size ≤ 4096) (hT : tokens s = .ok T) (hsz : (wideF s w 0 T).size ≤ 4096) :
    (∃ l, parseE s = .ok l ∧ parseE (wideF s w 0 T) = .ok l) ∨ ∃ a a' e, parseE s = .error (a, e) ∧ parseE (wideF s w 0 T) = .error (a', e) := by
  obtain ⟨T', h1, h2⟩ := wide_tokens hw hT
  have e1 : parseE s = progP s.size T := by unfold parseE; rw [tokensE_small hs, hT]
  have e2 : parseE (wideF s w 0 T) = progP (wideF s w 0 T).size T' := by unfold parseE; rw [tokensE_small hsz, h2]
  rw [e1, e2]
  have := prog_sim 17 [] (r := T') (p := T) ⟨T', h1, (List.append_nil _).symm⟩ ((wideF s w 0 T).size : Int) (s.size : Int)
  rcases this with ⟨l, q1, q2⟩ | ⟨a, a', e, q1, q2⟩
  · exact .inl ⟨l, q2, q1⟩
  · exact .inr ⟨a', a, e, q2, q1⟩
theorem tokF_rise (s : ByteArray) : ∀ n j T, j ≤ s.size → tokF s n j = .ok T → ∀ i, (hi : i < T.length) → (∃ q : Nat, Row.I T[i] 3 = (q : Int) ∧ q < s.size) ∧ ∀ i', (hi' : i' < T.length) → i ≤ i' → Row.I T[i] 3 ≤ Row.I T[i'] 3
  | 0, j, T, hj, h, i, hi => by cases h; simp at hi
  | n + 1, j, T, hj, h, i, hi => by
    unfold tokF at h
    split at h
    · rename_i hlt
      split at h
      · cases h
      · rename_i kd x v e ho
        split at h
        · cases h
        · split at h
          · rename_i l hl
            cases h
            have he := oneS_next hlt ho
            have hsk := skip_le (s := s) (j := e) he.2
            cases i with
            | zero =>
              refine ⟨⟨j, rfl, hlt⟩, fun i' hi' _ => ?_⟩
              cases i' with
              | zero => exact Int.le_refl _
              | succ i' =>
                have hi2 : i' < l.length := by simpa using hi'
                have := tokF_from s n _ _ hsk.2 hl l[i'] (List.getElem_mem hi2)
                show (j : Int) ≤ Row.I l[i'] 3
                omega
            | succ i =>
              obtain ⟨h1, h2⟩ := tokF_rise s n _ _ hsk.2 hl i (by simpa using hi)
              refine ⟨h1, fun i' hi' hle => ?_⟩
              cases i' with
              | zero => omega
              | succ i' => exact h2 i' (by simpa using hi') (by omega)
          · cases h
    · cases h; simp at hi
theorem blanks_loop {n : Nat} {s w : ByteArray} {j1 : Int} {b4 : Bool} {T : Rows} (hn : 5000 < n) (hs : s.size ≤ 4096) (hT : tokens s = .ok T) (hlenT : T.length ≤ 4097) (hw : Shut w) (hw6 : w.size ≤ 6)
    (hsel : Row.S [DV.val (Value.string (ByteArray.mk #[32])), DV.val (Value.string (ByteArray.mk #[10])), DV.val (Value.string (ByteArray.mk #[32, 37, 32, 120, 40, 10])), DV.val (Value.string (ByteArray.mk #[9, 13, 10, 32]))] (Int.toNat (Int.tmod (IntKind.wrap IntKind.i64 (Int.tmod j1 4 + 4)) 4)) = w) :
    ∀ k j : Nat, j + k = T.length → ∀ i, k < i → ∀ (acc : ByteArray) (fr : Nat), fr ≤ s.size → acc.size ≤ j * 5000 → (∀ (h : j < T.length), (fr : Int) ≤ Row.I T[j] 3) → acc ++ wideF s w fr (T.drop j) = wideF s w 0 T →
      law08_ParseBlanks_l8 n s j1 i b4 T acc (fr : Int) (j : Int) = some (true, ()) := by
  have hrise := tokF_rise s _ _ T (skip_le (s := s) (j := 0) (Nat.zero_le _)).2 hT
  intro k
  induction k with
  | zero =>
    intro j hj i hi acc fr hfr hacc _ hwide
    obtain ⟨i, rfl⟩ : ∃ z, i = z + 1 := ⟨i - 1, by omega⟩
    rw [law08_ParseBlanks_s8]
    have h1 : ¬ ((j : Int) < (T.length : Int)) := by omega
    have hext : (s.extract fr s.size).size = s.size - fr := size_ext hfr (Nat.le_refl _)
    rw [List.drop_eq_nil_of_le (by omega)] at hwide
    have hwide' : acc ++ s.extract (Int.toNat (fr : Int)) (Int.toNat ((s.size : Nat) : Int)) = wideF s w 0 T := by
      rw [Int.toNat_natCast, Int.toNat_natCast]; exact hwide
    have hsmall : acc.size + (s.extract (Int.toNat (fr : Int)) (Int.toNat ((s.size : Nat) : Int))).size < 4611686018427387904 := by
      rw [Int.toNat_natCast, Int.toNat_natCast]; omega
    rw [decide_eq_false h1, cond_false, if_pos (by omega), if_pos (by omega), if_pos (Int.le_refl _), if_pos hsmall, hwide', program_pq hn, program_pq hn, live_n hn]
    simp only [obind_some]
    by_cases hbig : (((wideF s w 0 T).size : Nat) : Int) > 4096
    · rw [decide_eq_true hbig, cond_true]
      have : parseE (wideF s w 0 T) = .error (0, 3) := by
        unfold parseE tokensE
        rw [if_pos (by omega)]; rfl
      rw [this, encG_error]
      rfl
    · rw [decide_eq_false hbig, cond_false]
      rcases parse_wide hw hs hT (by omega) with ⟨l, q1, q2⟩ | ⟨a, a', e, q1, q2⟩
      · rw [q1, q2, encG_ok]
        simp only [beq_self_eq_true, cond_true]
        rw [Like_q (N := 64) (by unfold big; omega) (by omega) (parseE_short q1)]
        simp only [obind_some, cond_true]
      · rw [q1, q2, encG_error, encG_error]
        simp only [beq_self_eq_true, cond_true]
        rw [Like_q (N := 64) (by unfold big; omega) (by omega) ⟨by simp, by simp⟩]
        simp only [obind_some, cond_true]
  | succ k ih =>
    intro j hj i hi acc fr hfr hacc hat hwide
    obtain ⟨i, rfl⟩ : ∃ z, i = z + 1 := ⟨i - 1, by omega⟩
    have hlt : j < T.length := by omega
    obtain ⟨⟨q, hq, hqs⟩, hup⟩ := hrise j hlt
    have hfq := hat hlt
    rw [law08_ParseBlanks_s8, hsel]
    have h1 : (j : Int) < (T.length : Int) := by omega
    have h0 : (0 : Int) ≤ (j : Int) := by omega
    rw [decide_eq_true h1, cond_true, if_pos h0, if_pos h1, if_pos (by omega)]
    simp only [Int.toNat_natCast, getD_get hlt, hq]
    have hseg : (s.extract fr q).size = q - fr := size_ext (by omega) (by omega)
    have hsz : (s.extract fr q ++ w).size = q - fr + w.size := by rw [app_size, hseg]
    rw [if_pos (by omega), if_pos (by omega), if_pos (by omega), if_pos (by omega), if_pos h0, if_pos h1, wrap_succ (by unfold big; omega)]
    refine ih (j + 1) (by omega) i (by omega) _ q (by omega) ?_ ?_ ?_
    · rw [app_size, hsz]; omega
    · intro h; rw [← hq]; exact hup (j + 1) h (by omega)
    · rw [← hwide, List.drop_eq_getElem_cons hlt]
      show _ = acc ++ (s.extract fr (Row.I T[j] 3).toNat ++ (w ++ wideF s w (Row.I T[j] 3).toNat (T.drop (j + 1))))
      have : (Row.I T[j] 3).toNat = q := by omega
      rw [this]
      apply ByteArray.ext
      simp [ByteArray.data_append, Array.append_assoc]
theorem law08_ParseBlanks_pure (s0 : ByteArray) (j1 : Int) (_h0 : s0.size ≤ reachBytes) (_h1 : (Lit.int .i64 j1).wf = true) : ∃ n, law08_ParseBlanks_v n s0 j1 = some (true, ()) := by
  refine ⟨6000, ?_⟩
  rw [law08_ParseBlanks_e]
  obtain ⟨h2, h3⟩ := tmod4 j1
  have h3' : Int.tmod (IntKind.wrap IntKind.i64 (Int.tmod j1 4 + 4)) 4 < ((4 : Nat) : Int) := h3
  rw [if_pos h2, if_pos h3, ref_Tokens_q (by omega)]
  rcases hT : tokensE s0 with p | T
  · simp only [tokRes, obind_some, tokensE_err hT, cond_true, live_n (show 5000 < 6000 by omega)]
  · simp only [tokRes, obind_some, show ((0 : Int) != 0) = false from rfl, cond_false, List.nil_append]
    have hsz := tokensE_len hT
    rw [tokensE_small hsz.1] at hT
    have hgo : ∀ w, Shut w → w.size ≤ 6 → Row.S [DV.val (Value.string (ByteArray.mk #[32])), DV.val (Value.string (ByteArray.mk #[10])), DV.val (Value.string (ByteArray.mk #[32, 37, 32, 120, 40, 10])), DV.val (Value.string (ByteArray.mk #[9, 13, 10, 32]))] (Int.toNat (Int.tmod (IntKind.wrap IntKind.i64 (Int.tmod j1 4 + 4)) 4)) = w →
        law08_ParseBlanks_l8 6000 s0 j1 6000 (true && T.isEmpty) T (ByteArray.mk #[]) 0 0 = some (true, ()) := by
      intro w hw hw6 hsel
      refine blanks_loop (n := 6000) (T := T) (by omega) hsz.1 hT hsz.2 hw hw6 hsel T.length 0 (by omega) 6000 (by omega) (ByteArray.mk #[]) 0 (Nat.zero_le _) (Nat.zero_le _) (fun h => ?_) ?_
      · obtain ⟨⟨q, hq, _⟩, _⟩ := tokF_rise s0 _ _ T (skip_le (s := s0) (j := 0) (Nat.zero_le _)).2 hT 0 h
        rw [hq]; omega
      · rw [List.drop_zero]
        exact ByteArray.empty_append
    generalize hz : Int.tmod (IntKind.wrap IntKind.i64 (Int.tmod j1 4 + 4)) 4 = z at h2 h3
    have cases4 : z = 0 ∨ z = 1 ∨ z = 2 ∨ z = 3 := by omega
    rcases cases4 with rfl | rfl | rfl | rfl
    · exact hgo (ByteArray.mk #[32]) (shut_w (.inl rfl)) (by decide) (by rw [hz]; rfl)
    · exact hgo (ByteArray.mk #[10]) (shut_w (.inr (.inl rfl))) (by decide) (by rw [hz]; rfl)
    · exact hgo (ByteArray.mk #[32, 37, 32, 120, 40, 10]) (shut_w (.inr (.inr (.inl rfl)))) (by decide) (by rw [hz]; rfl)
    · exact hgo (ByteArray.mk #[9, 13, 10, 32]) (shut_w (.inr (.inr (.inr rfl)))) (by decide) (by rw [hz]; rfl)
end Go.Den
