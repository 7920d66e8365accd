import Derived.Test.YtlpnccpagikioaaDoorZ34
set_option linter.unusedVariables false
set_option linter.unusedSimpArgs false
set_option linter.unusedSectionVars false
/- ShowApart. -/
namespace Go.Den
open Go.Proofs
/-- Unlike terms are shown as unlike texts. -/
theorem tokT_inj {a b : Tm} (ha : okT a) (hb : okT b) (h : tokT a = tokT b) : a = b := by
  obtain ⟨s, hs⟩ := ha
  obtain ⟨t, ht⟩ := hb
  rcases term1_cases hs with ⟨w, rfl, _, _, h2⟩ | ⟨z, rfl, _, h2⟩ | ⟨x, rfl, _, _, h2⟩ | ⟨x, rfl, _, _, _, _, _, h2⟩ <;>
  rcases term1_cases ht with ⟨w', rfl, _, _, h2'⟩ | ⟨z', rfl, _, h2'⟩ | ⟨x', rfl, _, _, h2'⟩ | ⟨x', rfl, _, _, _, _, _, h2'⟩ <;>
  (rw [h2, h2'] at h; simp only [Prod.mk.injEq] at h)
  · rw [h.2.1]
  · exact absurd h.1 (by decide)
  · exact absurd h.1 (by decide)
  · exact absurd h.1 (by decide)
  · exact absurd h.1 (by decide)
  · rw [h.2.2]
  · exact absurd h.1 (by decide)
  · exact absurd h.1 (by decide)
  · exact absurd h.1 (by decide)
  · exact absurd h.1 (by decide)
  · rw [h.2.1]
  · exact absurd h.1 (by decide)
  · exact absurd h.1 (by decide)
  · exact absurd h.1 (by decide)
  · exact absurd h.1 (by decide)
  · rw [h.2.1]
theorem term1_inj {a b : Tm} (ba : Bnd a) (bb : Bnd b) {s : ByteArray} (ha : term1 a = some s) (hb : term1 b = some s) : a = b := by
  have h1 := term_lex (rest := noB) ba ha (by decide) Lexes.nil
  have h2 := term_lex (rest := noB) bb hb (by decide) Lexes.nil
  have := h1.uniq h2
  simp only [List.cons.injEq, and_true] at this
  exact tokT_inj ⟨s, ha⟩ ⟨s, hb⟩ this
theorem ruleR_inj {x y : Row} (bx : BndR (ruleD x)) (by' : BndR (ruleD y)) {s : ByteArray} (hx : ruleR x = some s) (hy : ruleR y = some s) : ruleD x = ruleD y := by
  have h1 := rule_lex (rest := noB) bx hx Lexes.nil
  have h2 := rule_lex (rest := noB) by' hy Lexes.nil
  have h3 := h1.uniq h2
  obtain ⟨rows, _, h4⟩ := h1
  obtain ⟨p, R, k1, _, k3⟩ := ruleP_parse (j := 0) ((ruleR_ok x).1 ⟨s, hx⟩) h4
  rw [h3] at h4
  obtain ⟨q, R', m1, _, m3⟩ := ruleP_parse (j := 0) ((ruleR_ok y).1 ⟨s, hy⟩) h4
  rw [k1] at m1
  cases m1
  rw [← k3, ← m3]
theorem kept_a {n : Nat} (hn : 10000 < n) : ref08_Kept_v n (ByteArray.mk #[97]) = some (false, ()) := by
  rw [kept_q hn]; rfl
theorem show_T1 {n : Nat} {t : Tm} {s0 : ByteArray} {b1 : Bool} {j2 : Int} {s3 : ByteArray} (e : t = (s0, b1, j2, s3)) (h : TmOk n t) (hn : 10000 < n) : show_Term_v n s0 b1 j2 s3 = some (outS (term1 t)) := by
  subst e
  have h1 := show_T h hn
  generalize term1 (s0, b1, j2, s3) = o at h1 ⊢
  cases o <;> exact h1
theorem eq_dec {α : Type} [DecidableEq α] (a b : α) (c : Bool) (h1 : a = b → c = true) (h2 : c = true → a = b) : decide (a = b) = c := by
  cases c with
  | true => exact decide_eq_true (h2 rfl)
  | false => exact decide_eq_false (fun e => by cases h1 e)
theorem rules_apart {n : Nat} (hN : 10000 < n) {X Y : Row} (hX : RuleOk n X) (hY : RuleOk n Y) :
    (obind (some (outS (ruleR X))) fun y56 => obind (some (outS (ruleR Y))) fun y57 =>
      bif y56.fst.snd.fst != 0 then obind (ref08_Kept_v n (ByteArray.mk #[97])) fun y58 => bif !y58.fst then obind (law09_live_v n) fun y59 => some (y59.fst, ()) else some (false, ())
      else bif y57.fst.snd.fst != 0 then obind (ref08_Kept_v n (ByteArray.mk #[97])) fun y60 => bif !y60.fst then obind (law09_live_v n) fun y61 => some (y61.fst, ()) else some (false, ())
      else obind (some (decide (ruleD X = ruleD Y), ())) fun y62 =>
      bif (y56.fst.fst == y57.fst.fst) == y62.fst then obind (ref08_Kept_v n (ByteArray.mk #[97])) fun y63 => bif !y63.fst then obind (law09_live_v n) fun y64 => some (y64.fst, ()) else some (false, ())
      else some (false, ())) = some (true, ()) := by
  have hlv := live9_at (n := n) (by omega)
  have n100 : ((100 : Int) != 0) = true := rfl
  rw [kept_a hN, hlv]
  simp only [obind_some]
  cases hx : ruleR X with
  | none => simp only [outS, n100, cond_true, Bool.not_false]
  | some u =>
    simp only [outS, bne_self_eq_false, cond_false]
    cases hy : ruleR Y with
    | none => simp only [n100, cond_true, Bool.not_false]
    | some v =>
      simp only [bne_self_eq_false, cond_false]
      have he : decide (ruleD X = ruleD Y) = (u == v) := eq_dec _ _ _ (fun h => by
        have := ruleR_data h
        rw [hx, hy] at this
        cases this; simp) (fun h => by
        have : u = v := eq_of_beq h
        subst this
        exact ruleR_inj (bnd_rule hX) (bnd_rule hY) hx hy)
      rw [he]
      simp only [beq_self_eq_true, cond_true, Bool.not_false]
theorem law09_ShowApart_pure (s0 : ByteArray) (b1 : Bool) (j2 : Int) (s3 : ByteArray) (s4 : ByteArray) (b5 : Bool) (j6 : Int) (s7 : ByteArray) (s8 : ByteArray) (b9 : Bool) (j10 : Int) (s11 : ByteArray) (s12 : ByteArray) (b13 : Bool) (r14 : Rows) (s15 : ByteArray) (b16 : Bool) (j17 : Int) (s18 : ByteArray) (b19 : Bool) (r20 : Rows)
    (s21 : ByteArray) (b22 : Bool) (j23 : Int) (s24 : ByteArray) (s25 : ByteArray) (b26 : Bool) (r27 : Rows) (s28 : ByteArray) (b29 : Bool) (j30 : Int) (s31 : ByteArray) (b32 : Bool) (r33 : Rows)
    (h0 : s0.size ≤ reachBytes) (h2 : (Lit.int .i64 j2).wf = true) (h3 : s3.size ≤ reachBytes) (h4 : s4.size ≤ reachBytes) (h6 : (Lit.int .i64 j6).wf = true) (h7 : s7.size ≤ reachBytes)
    (h8 : s8.size ≤ reachBytes) (h10 : (Lit.int .i64 j10).wf = true) (h11 : s11.size ≤ reachBytes) (h12 : s12.size ≤ reachBytes) (h14 : Fsl b13 kT r14) (h15 : s15.size ≤ reachBytes) (h17 : (Lit.int .i64 j17).wf = true) (h18 : s18.size ≤ reachBytes) (h20 : Fsl b19 kL r20)
    (h21 : s21.size ≤ reachBytes) (h23 : (Lit.int .i64 j23).wf = true) (h24 : s24.size ≤ reachBytes) (h25 : s25.size ≤ reachBytes) (h27 : Fsl b26 kT r27) (h28 : s28.size ≤ reachBytes) (h30 : (Lit.int .i64 j30).wf = true) (h31 : s31.size ≤ reachBytes) (h33 : Fsl b32 kL r33) :
    ∃ n, law09_ShowApart_v n s0 b1 j2 s3 s4 b5 j6 s7 s8 b9 j10 s11 s12 b13 r14 s15 b16 j17 s18 b19 r20 s21 b22 j23 s24 s25 b26 r27 s28 b29 j30 s31 b32 r33 = some (true, ()) := by
  refine ⟨bigN, ?_⟩
  have hN := bigN_big
  have hlv := live9_at (n := bigN) (by omega)
  generalize hX : ([.val (.string s8), .val (.bool b9), .val (.int .i64 j10), .val (.string s11), .val (.string s12), .sl b13 kT r14, .val (.string s15), .val (.bool b16), .val (.int .i64 j17), .val (.string s18), .sl b19 kL r20] : Row) = X
  generalize hY : ([.val (.string s21), .val (.bool b22), .val (.int .i64 j23), .val (.string s24), .val (.string s25), .sl b26 kT r27, .val (.string s28), .val (.bool b29), .val (.int .i64 j30), .val (.string s31), .sl b32 kL r33] : Row) = Y
  have fX : Row.ofKds kR X = true ∧ RowFine X := by subst hX; exact ⟨rfl, h8, trivial, h10, h11, h12, h14, h15, trivial, h17, h18, h20, trivial⟩
  have fY : Row.ofKds kR Y = true ∧ RowFine Y := by subst hY; exact ⟨rfl, h21, trivial, h23, h24, h25, h27, h28, trivial, h30, h31, h33, trivial⟩
  have hf : RowsFine kR [X, Y] := ⟨fX.1, fX.2, fY.1, fY.2, trivial⟩
  have hlen : ([X, Y] : Rows).length ≤ reachBytes := by show 2 ≤ reachBytes; unfold reachBytes; omega
  rw [law09_ShowApart_e]
  have hw := weight5_q (n := bigN) (b0 := false) (most := 200) (by omega) (by omega) hf hlen (fun r hr => bigN_lt (fineR (rowsFine_mem hf hr)).2.2.1) (bigN_lt hlen)
  have hwt : ref05_Weight_v bigN false ([[DV.val (Value.string s8), DV.val (Value.bool b9), DV.val (Value.int IntKind.i64 j10), DV.val (Value.string s11), DV.val (Value.string s12), DV.sl b13 [Kd.s, Kd.b, Kd.i IntKind.i64, Kd.s] r14, DV.val (Value.string s15), DV.val (Value.bool b16), DV.val (Value.int IntKind.i64 j17), DV.val (Value.string s18), DV.sl b19 [Kd.s, Kd.b, Kd.i IntKind.i64, Kd.s, Kd.s, Kd.sl [Kd.s, Kd.b, Kd.i IntKind.i64, Kd.s], Kd.s, Kd.b, Kd.i IntKind.i64, Kd.s] r20], [DV.val (Value.string s21), DV.val (Value.bool b22), DV.val (Value.int IntKind.i64 j23), DV.val (Value.string s24), DV.val (Value.string s25), DV.sl b26 [Kd.s, Kd.b, Kd.i IntKind.i64, Kd.s] r27, DV.val (Value.string s28), DV.val (Value.bool b29), DV.val (Value.int IntKind.i64 j30), DV.val (Value.string s31), DV.sl b32 [Kd.s, Kd.b, Kd.i IntKind.i64, Kd.s, Kd.s, Kd.sl [Kd.s, Kd.b, Kd.i IntKind.i64, Kd.s], Kd.s, Kd.b, Kd.i IntKind.i64, Kd.s] r33]]) 200 = some (weight5 200 [X, Y] 0, ()) := by
    subst hX hY; exact hw
  rw [hwt, hlv]
  simp only [obind_some]
  by_cases hw2 : weight5 200 [X, Y] 0 > 200
  · simp only [hw2, decide_true, cond_true]
  · simp only [hw2, decide_false, cond_false]
    obtain ⟨g1, g2⟩ := weight5_all2 (most := 200) [X, Y] 0 hf (Int.le_refl _) (by omega)
    have oX : RuleOk bigN X := ruleOk fX (by have := (g2 X (by simp)).1; omega) (by have := (g2 X (by simp)).2.1; omega) (fun q hq => by have := (g2 X (by simp)).2.2 q hq; omega)
    have oY : RuleOk bigN Y := ruleOk fY (by have := (g2 Y (by simp)).1; omega) (by have := (g2 Y (by simp)).2.1; omega) (fun q hq => by have := (g2 Y (by simp)).2.2 q hq; omega)
    have l2 := lit_i64 h2
    have l6 := lit_i64 h6
    have tA : TmOk bigN (s0, b1, j2, s3) := ⟨by show _ ≤ j2; omega, by show j2 ≤ _; omega, h3, bigN_lt h3⟩
    have tB : TmOk bigN (s4, b5, j6, s7) := ⟨by show _ ≤ j6; omega, by show j6 ≤ _; omega, h7, bigN_lt h7⟩
    rw [show_T1 rfl tA hN, show_T1 rfl tB hN]
    have rX : show_Rule_v bigN s8 b9 j10 s11 s12 b13 r14 s15 b16 j17 s18 b19 r20 = some (outS (ruleR X)) := by
      have := show_Rule_r hN oX
      subst hX; exact this
    have rY : show_Rule_v bigN s21 b22 j23 s24 s25 b26 r27 s28 b29 j30 s31 b32 r33 = some (outS (ruleR Y)) := by
      have := show_Rule_r hN oY
      subst hY; exact this
    have rS : ref05_SameRule_v bigN s8 b9 j10 s11 s12 b13 r14 s15 b16 j17 s18 b19 r20 s21 b22 j23 s24 s25 b26 r27 s28 b29 j30 s31 b32 r33 = some (decide (ruleD X = ruleD Y), ()) := by
      have := SameRule_qd (b := Y) (small_rule hN oX)
      subst hX hY; exact this
    rw [rX, rY, rS]
    have key := rules_apart hN oX oY
    simp only [hlv, obind_some] at key
    simp only [obind_some]
    cases ha : term1 (s0, b1, j2, s3) with
    | none => exact key
    | some u =>
      simp only [outS, beq_self_eq_true, cond_true]
      cases hb : term1 (s4, b5, j6, s7) with
      | none => exact key
      | some v =>
        simp only [beq_self_eq_true, cond_true]
        have he : (s0 == s4 && (b1 == b5 && (j2 == j6 && (s3 == s7 && true)))) = (u == v) := by
          have h1 := sameT_eq (s0, b1, j2, s3) (s4, b5, j6, s7)
          have h2 : decide ((s0, b1, j2, s3) = (s4, b5, j6, s7)) = (u == v) := eq_dec _ _ _ (fun h => by
            rw [h, hb] at ha
            cases ha; simp) (fun h => by
            have : u = v := eq_of_beq h
            subst this
            exact term1_inj ⟨tA.lo, tA.hi⟩ ⟨tB.lo, tB.hi⟩ ha hb)
          exact h1.trans h2
        rw [he]
        simp only [beq_self_eq_true, Bool.not_true, cond_false]
        exact key
end Go.Den
