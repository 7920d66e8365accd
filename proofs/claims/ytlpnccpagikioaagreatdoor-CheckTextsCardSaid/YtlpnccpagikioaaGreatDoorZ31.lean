import Derived.Test.YtlpnccpagikioaaGreatDoorZ30
import Derived.Test.YtlpnccpagikioaaGreatDoorZ20
set_option linter.unusedVariables false
set_option linter.unusedSimpArgs false
set_option linter.unusedSectionVars false
namespace Go.Den
open Go.Proofs
abbrev Tok := Int × ByteArray × Int
def tokOf (r : Row) : Tok := (Row.I r 0, Row.S r 1, Row.I r 2)
def Lexes (s : ByteArray) (l : List Tok) : Prop := ∃ rows, (∀ k, s.size < k → tokF s k (skip s 0) = .ok rows) ∧ rows.map tokOf = l
theorem Lexes.nil : Lexes noB [] := ⟨[], fun k hk => by
  obtain ⟨k, rfl⟩ : ∃ z, k = z + 1 := ⟨k - 1, by omega⟩
  rfl, rfl⟩
theorem Lexes.tokens {s : ByteArray} {l : List Tok} (h : Lexes s l) : ∃ rows, tokens s = .ok rows ∧ rows.map tokOf = l := by
  obtain ⟨r, h1, h2⟩ := h
  exact ⟨r, h1 _ (by omega), h2⟩
theorem map_shift (d : Nat) (l : Rows) : (l.map (shiftTok d)).map tokOf = l.map tokOf := by
  rw [List.map_map]; rfl
theorem Lexes.tok {A rest x : ByteArray} {kd v : Int} {l : List Tok} (h1 : oneS (A ++ rest) 0 = some (kd, x, v, A.size)) (h0 : 0 < A.size) (hx : x.size ≤ 32) (hb : isBlank (bt A 0) = false) (h37 : (bt A 0 == 37) = false) (h : Lexes rest l) :
    Lexes (A ++ rest) ((kd, x, v) :: l) := by
  obtain ⟨rows, hr, rfl⟩ := h
  have e0 : bt (A ++ rest) 0 = bt A 0 := bt_app1 (k := 0) h0
  have hsk : skip (A ++ rest) 0 = 0 := skip_stop (j := 0) (by rw [show ((0 : Nat) : Int) = 0 from rfl, e0]; exact h37) (by rw [show ((0 : Nat) : Int) = 0 from rfl, e0]; exact hb)
  refine ⟨tokRow kd x v 0 :: rows.map (shiftTok A.size), fun k hk => ?_, ?_⟩
  · rw [hsk]
    have hsz := app_size A rest
    obtain ⟨k, rfl⟩ : ∃ z, k = z + 1 := ⟨k - 1, by omega⟩
    unfold tokF
    rw [if_pos (by omega), h1]
    simp only
    rw [if_neg (by omega)]
    have e1 : skip (A ++ rest) A.size = A.size + skip rest 0 := skip_shift (u := A) (w := rest) (j := 0)
    rw [e1, tokF_shift k (skip rest 0) (skip_le (Nat.zero_le _)).2, hr k (by omega)]
    rfl
  · rw [List.map_cons, map_shift]; rfl
theorem one_inner {p : Int → Bool} {w rest : ByteArray} {kd : Int} (hp : (kd = 1 ∧ p = isSmall) ∨ (kd = 2 ∧ p = isGreat)) (h : namedS p w = true) (hs : isInner (bt rest 0) = false) : oneS (w ++ rest) 0 = some (kd, w, 0, w.size) := by
  unfold namedS at h
  simp only [Bool.and_eq_true, decide_eq_true_eq] at h
  obtain ⟨h1, h2, h3, h4⟩ := h
  have e0 : bt (w ++ rest) ((0 : Nat) : Int) = bt w 0 := bt_app1 (k := 0) (by omega)
  have ho : over isInner (w ++ rest) 0 = w.size := by rw [over_app_stop (Nat.zero_le _) hs, h4]
  have hx : (w ++ rest).extract 0 w.size = w := by rw [ext_app (Nat.le_refl _), extract_all]
  unfold oneS
  rw [e0, ho, hx]
  rcases hp with ⟨rfl, rfl⟩ | ⟨rfl, rfl⟩
  · rw [h3]; rfl
  · rw [h3, small_great h3]; rfl
theorem inner_first {p : Int → Bool} {w : ByteArray} {kd : Int} (hp : (kd = 1 ∧ p = isSmall) ∨ (kd = 2 ∧ p = isGreat)) (h : namedS p w = true) : 0 < w.size ∧ w.size ≤ 32 ∧ isBlank (bt w 0) = false ∧ (bt w 0 == 37) = false := by
  unfold namedS at h
  simp only [Bool.and_eq_true, decide_eq_true_eq] at h
  obtain ⟨h1, h2, h3, h4⟩ := h
  have := over_bt0 (hp.elim (fun h => .inl h.2) (fun h => .inr h.2)) h3
  exact ⟨by omega, h2, this.2, this.1⟩
theorem Lexes.word {w rest : ByteArray} {l : List Tok} (h : namedS isSmall w = true) (hs : isInner (bt rest 0) = false) (hr : Lexes rest l) : Lexes (w ++ rest) ((1, w, 0) :: l) := by
  obtain ⟨a, b, c, d⟩ := inner_first (kd := 1) (.inl ⟨rfl, rfl⟩) h
  exact Lexes.tok (one_inner (.inl ⟨rfl, rfl⟩) h hs) a b c d hr
theorem Lexes.quote {s rest : ByteArray} {l : List Tok} (hp : plainS s = true) (hs : s.size ≤ 32) (hr : Lexes rest l) : Lexes (ByteArray.mk #[34] ++ s ++ ByteArray.mk #[34] ++ rest) ((4, s, 0) :: l) := by
  have hz : (ByteArray.mk #[34] ++ s ++ ByteArray.mk #[34]).size = s.size + 2 := by
    rw [app_size, app_size]
    have : (ByteArray.mk #[34]).size = 1 := rfl
    omega
  have ha : ByteArray.mk #[34] ++ s ++ ByteArray.mk #[34] ++ rest = ByteArray.mk #[34] ++ (s ++ (ByteArray.mk #[34] ++ rest)) := by simp only [ByteArray.append_assoc]
  have hb0 : bt (ByteArray.mk #[34] ++ s ++ ByteArray.mk #[34]) 0 = 34 := by rw [ByteArray.append_assoc]; exact bt_head 34 _
  refine Lexes.tok ?_ (by omega) hs (by rw [hb0]; rfl) (by rw [hb0]; rfl) hr
  rw [hz, ha]
  have e0 : bt (ByteArray.mk #[34] ++ (s ++ (ByteArray.mk #[34] ++ rest))) ((0 : Nat) : Int) = 34 := bt_head 34 _
  have hq : isPlain (bt (ByteArray.mk #[34] ++ rest) 0) = false := by rw [show bt (ByteArray.mk #[34] ++ rest) 0 = 34 from bt_head 34 rest]; rfl
  have ho : over isPlain (ByteArray.mk #[34] ++ (s ++ (ByteArray.mk #[34] ++ rest))) (0 + 1) = 1 + s.size := by
    have h1 : over isPlain (ByteArray.mk #[34] ++ (s ++ (ByteArray.mk #[34] ++ rest))) 1 = 1 + over isPlain (s ++ (ByteArray.mk #[34] ++ rest)) 0 := over_shift (u := ByteArray.mk #[34]) (b := s ++ (ByteArray.mk #[34] ++ rest)) (j := 0) (Nat.zero_le _)
    have h2 : over isPlain (s ++ (ByteArray.mk #[34] ++ rest)) 0 = over isPlain s 0 := over_app_stop (Nat.zero_le _) hq
    have h3 : over isPlain s 0 = s.size := by unfold plainS at hp; exact of_decide_eq_true hp
    rw [show 0 + 1 = 1 from rfl, h1, h2, h3]
  have hsz : (ByteArray.mk #[34] ++ (s ++ (ByteArray.mk #[34] ++ rest))).size = 1 + (s.size + (1 + rest.size)) := by
    rw [app_size, app_size, app_size]; rfl
  have hb1 : bt (ByteArray.mk #[34] ++ (s ++ (ByteArray.mk #[34] ++ rest))) ((1 + s.size : Nat) : Int) = 34 := by
    have h1 : bt (ByteArray.mk #[34] ++ (s ++ (ByteArray.mk #[34] ++ rest))) ((1 + s.size : Nat) : Int) = bt (s ++ (ByteArray.mk #[34] ++ rest)) (s.size : Int) := bt_app2 (s := ByteArray.mk #[34]) (t := s ++ (ByteArray.mk #[34] ++ rest)) (k := s.size)
    have h2 : bt (s ++ (ByteArray.mk #[34] ++ rest)) (s.size : Int) = bt (ByteArray.mk #[34] ++ rest) ((0 : Nat) : Int) := bt_app2 (s := s) (t := ByteArray.mk #[34] ++ rest) (k := 0)
    rw [h1, h2]; exact bt_head 34 rest
  have hx : (ByteArray.mk #[34] ++ (s ++ (ByteArray.mk #[34] ++ rest))).extract (0 + 1) (1 + s.size) = s := by
    have h1 : (ByteArray.mk #[34] ++ (s ++ (ByteArray.mk #[34] ++ rest))).extract (1 + 0) (1 + s.size) = (s ++ (ByteArray.mk #[34] ++ rest)).extract 0 s.size := ext_app2 (u := ByteArray.mk #[34]) (b := s ++ (ByteArray.mk #[34] ++ rest)) (x := 0) (y := s.size)
    exact h1.trans (by rw [ext_app (Nat.le_refl _), extract_all])
  unfold oneS
  rw [e0, ho, hb1, hx]
  have hlt : decide (1 + s.size < (ByteArray.mk #[34] ++ (s ++ (ByteArray.mk #[34] ++ rest))).size) = true := decide_eq_true (by omega)
  rw [hlt, show 1 + s.size + 1 = s.size + 2 from by omega]
  rfl
theorem valFrom_snoc (d : Nat) : ∀ (l : List Nat) (a : Nat), valFrom a (l ++ [d]) = 10 * valFrom a l + d
  | [], a => rfl
  | x :: l, a => valFrom_snoc d l (10 * a + x)
theorem dec_digits : ∀ u : Nat, ∃ l : List Nat, Go.Lib.decDigits u = l.map (fun d => UInt8.ofNat (48 + d)) ∧ (∀ d ∈ l, d < 10) ∧ 0 < l.length ∧ (0 < u → ∀ h : 0 < l.length, l[0] ≠ 0) ∧ (u = 0 → l = [0]) ∧ valFrom 0 l = u := by
  intro u
  induction u using Nat.strongRecOn with
  | ind u ih =>
    by_cases hu : u < 10
    · refine ⟨[u], by rw [Go.Lib.decDigits, dif_pos hu]; rfl, fun d hd => ?_, by simp, fun h0 h => ?_, fun h0 => by rw [h0], ?_⟩
      · simp only [List.mem_singleton] at hd; omega
      · simp; omega
      · show 10 * 0 + u = u; omega
    · obtain ⟨l, h1, h2, h3, h4, h5, h6⟩ := ih (u / 10) (by omega)
      refine ⟨l ++ [u % 10], by rw [Go.Lib.decDigits, dif_neg hu, h1, List.map_append]; rfl, fun d hd => ?_, by simp, fun h0 h => ?_, fun h0 => by omega, ?_⟩
      · rcases List.mem_append.1 hd with hd | hd
        · exact h2 d hd
        · simp only [List.mem_singleton] at hd; omega
      · rw [List.getElem_append_left h3]
        exact h4 (by omega) h3
      · rw [valFrom_snoc, h6]; omega
theorem one_num {z : Int} {rest : ByteArray} (hlo : -9223372036854775808 ≤ z) (hhi : z ≤ 9223372036854775807) (hs : isInner (bt rest 0) = false) :
    oneS (ByteArray.mk (Go.Lib.itoa z).toArray ++ rest) 0 = some (3, ByteArray.mk #[], z, (ByteArray.mk (Go.Lib.itoa z).toArray).size) ∧ 0 < (ByteArray.mk (Go.Lib.itoa z).toArray).size ∧ isBlank (bt (ByteArray.mk (Go.Lib.itoa z).toArray) 0) = false ∧ (bt (ByteArray.mk (Go.Lib.itoa z).toArray) 0 == 37) = false := by
  obtain ⟨l, h1, h2, h3, h4, h5, h6⟩ := dec_digits z.natAbs
  have hof : ∀ i : Nat, (hi : i < l.length) → isDigit (bt (ofD l) (i : Int)) = true := fun i hi => by
    have := h2 _ (List.getElem_mem hi)
    rw [bt_ofD hi h2]
    exact (dig_facts (c := 48 + (l[i] : Int)) (by omega) (by omega)).2.2.1
  have hl0 := h2 _ (List.getElem_mem h3)
  have hf0 : bt (ofD l) 0 = 48 + (l[0] : Int) := bt_ofD (j := 0) h3 h2
  have hfc := dig_facts (c := 48 + (l[0] : Int)) (by omega) (by omega)
  have hsz := ofD_size l
  have hdg := digit_inner hs
  by_cases hz : z < 0
  · have e : ByteArray.mk (Go.Lib.itoa z).toArray = ByteArray.mk #[45] ++ ofD l := by
      unfold Go.Lib.itoa
      rw [if_pos hz, h1]
      apply ByteArray.ext
      rw [ByteArray.data_append]
      show _ = #[45] ++ (l.map fun d => UInt8.ofNat (48 + d)).toArray
      simp
    rw [e]
    have hsz2 : (ByteArray.mk #[45] ++ ofD l).size = l.length + 1 := by rw [size_head, hsz]
    have hA0 : bt (ByteArray.mk #[45] ++ ofD l) 0 = 45 := bt_head 45 _
    refine ⟨?_, by omega, by rw [hA0]; rfl, by rw [hA0]; rfl⟩
    have hnz := h4 (by omega) h3
    have e0 : bt (ByteArray.mk #[45] ++ ofD l ++ rest) ((0 : Nat) : Int) = 45 := by rw [ByteArray.append_assoc]; exact bt_head 45 _
    have hb : ∀ i : Nat, i < l.length → bt (ByteArray.mk #[45] ++ ofD l ++ rest) ((1 + i : Nat) : Int) = 48 + ((l[i]?.getD 0 : Nat) : Int) := fun i hi => by
      have a1 : bt (ByteArray.mk #[45] ++ ofD l ++ rest) ((1 + i : Nat) : Int) = bt (ByteArray.mk #[45] ++ ofD l) ((1 + i : Nat) : Int) := bt_app1 (by omega)
      have a2 : bt (ByteArray.mk #[45] ++ ofD l) ((1 + i : Nat) : Int) = bt (ofD l) (i : Int) := by rw [Nat.add_comm]; exact bt_tail 45 (ofD l) i
      rw [a1, a2, bt_ofD hi h2, List.getElem?_eq_getElem hi]; rfl
    have ho : over isDigit (ByteArray.mk #[45] ++ ofD l ++ rest) (0 + 1) = l.length + 1 := by
      rw [over_app_stop (s := ByteArray.mk #[45] ++ ofD l) (by omega) hdg]
      refine over_unique (by omega) (by omega) (fun i a b => ?_) (fun h => by omega)
      obtain ⟨i, rfl⟩ : ∃ y, i = 1 + y := ⟨i - 1, by omega⟩
      have a2 : bt (ByteArray.mk #[45] ++ ofD l) ((1 + i : Nat) : Int) = bt (ofD l) (i : Int) := by rw [Nat.add_comm]; exact bt_tail 45 (ofD l) i
      rw [a2]; exact hof i (by omega)
    have hn : numF (ByteArray.mk #[45] ++ ofD l ++ rest) l.length (0 + 1) 0 = some (-(valFrom 0 l : Int)) := by
      have := numF_val (t := ByteArray.mk #[45] ++ ofD l ++ rest) l (0 + 1) 0 h2 (fun i hi => by
        rw [show 0 + 1 + i = 1 + i from by omega, hb i hi, List.getElem?_eq_getElem hi]; rfl) (by omega)
      simpa using this
    have c1 : bt (ByteArray.mk #[45] ++ ofD l ++ rest) ((0 + 1 : Nat) : Int) = 48 + (l[0] : Int) := by
      have := hb 0 h3
      rw [List.getElem?_eq_getElem h3] at this
      exact this
    have c2 : (48 + (l[0] : Int) == 48) = false := by
      have : ¬ (48 + (l[0] : Int)) = 48 := by omega
      simpa using this
    have hns : numS (ByteArray.mk #[45] ++ ofD l ++ rest) 0 (l.length + 1) = some z := by
      unfold numS
      rw [e0, c1, c2, show l.length + 1 - (0 + 1) = l.length from by omega, hn, h6]
      have c3 : ¬ l.length + 1 ≤ 0 + 1 := by omega
      simp only [beq_self_eq_true, cond_true, c3, decide_false, cond_false]
      congr 1; omega
    unfold oneS
    rw [e0, ho, hns, hsz2]
    rfl
  · have e : ByteArray.mk (Go.Lib.itoa z).toArray = ofD l := by
      unfold Go.Lib.itoa
      rw [if_neg hz, show z.toNat = z.natAbs from by omega, h1]; rfl
    rw [e]
    refine ⟨?_, by omega, by rw [hf0]; exact hfc.2.2.2.1, by rw [hf0]; exact hfc.2.2.2.2.1⟩
    have e0 : bt (ofD l ++ rest) ((0 : Nat) : Int) = 48 + (l[0] : Int) := by
      have : bt (ofD l ++ rest) ((0 : Nat) : Int) = bt (ofD l) ((0 : Nat) : Int) := bt_app1 (by omega)
      rw [this]; exact hf0
    have ho : over isDigit (ofD l ++ rest) (0 + 1) = l.length := by
      rw [over_app_stop (s := ofD l) (by omega) hdg]
      refine over_unique (by omega) (by omega) (fun i a b => hof i (by omega)) (fun h => by omega)
    have hn : numF (ofD l ++ rest) l.length 0 0 = some (-(valFrom 0 l : Int)) := by
      have := numF_val (t := ofD l ++ rest) l 0 0 h2 (fun i hi => by
        have a1 : bt (ofD l ++ rest) ((0 + i : Nat) : Int) = bt (ofD l) ((0 + i : Nat) : Int) := bt_app1 (by omega)
        rw [a1, Nat.zero_add]; exact bt_ofD hi h2) (by omega)
      simpa using this
    have c48 : (48 + (l[0] : Int) == 48 && decide (l.length > 0 + 1)) = false := by
      by_cases h1' : 1 < l.length
      · have hu : 0 < z.natAbs := by
          by_cases h0 : 0 < z.natAbs
          · exact h0
          · have : l = [0] := h5 (by omega)
            rw [this] at h1'; simp at h1'
        have := h4 hu h3
        have : ¬ (48 + (l[0] : Int)) = 48 := by omega
        have e : (48 + (l[0] : Int) == 48) = false := by simpa using this
        rw [e]; rfl
      · have : ¬ l.length > 0 + 1 := by omega
        rw [decide_eq_false this, Bool.and_false]
    have hns : numS (ofD l ++ rest) 0 l.length = some z := by
      unfold numS
      rw [e0, hfc.2.2.2.2.2, Nat.sub_zero, hn, h6]
      simp only [cond_false]
      rw [c48, cond_false]
      have m1 : (-(z.natAbs : Int) == -9223372036854775808) = false := by
        have : ¬ -(z.natAbs : Int) = -9223372036854775808 := by omega
        simpa using this
      have m2 : W (0 - -(z.natAbs : Int)) = z := by rw [show (0 : Int) - -(z.natAbs : Int) = z from by omega]; exact wrap_i64 (by omega) (by omega)
      simp only [m1, cond_false, m2]
    unfold oneS
    rw [e0, ho, hns, hfc.1, hfc.2.1, hfc.2.2.1, hsz]
    rfl
theorem Lexes.num {z : Int} {rest : ByteArray} {l : List Tok} (hlo : -9223372036854775808 ≤ z) (hhi : z ≤ 9223372036854775807) (hs : isInner (bt rest 0) = false) (hr : Lexes rest l) :
    Lexes (ByteArray.mk (Go.Lib.itoa z).toArray ++ rest) ((3, noB, z) :: l) := by
  obtain ⟨h1, h2, h3, h4⟩ := one_num hlo hhi hs
  exact Lexes.tok h1 h2 (Nat.zero_le _) h3 h4 hr
end Go.Den
