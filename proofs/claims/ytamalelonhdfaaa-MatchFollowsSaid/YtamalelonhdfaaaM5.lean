import Derived.Test.YtamalelonhdfaaaM4
set_option linter.unusedVariables false
set_option linter.unusedSimpArgs false
set_option linter.unusedSectionVars false
/- The document's bodies; MatchHeads. -/
namespace Go.Den
open Go.Proofs
section
variable {n : Nat} {s0 s3 s4 s7 s10 : ByteArray} {b1 b5 b8 b11 b13 : Bool} {j2 j9 : Int} {r6 r12 r14 : Rows}
theorem ref11_Body_loop (hb : r14.length < big) (hn : r14.length < n) (h12 : r12.length ≤ 100000) (ha : ∀ r ∈ r12, (Row.R r 5).length ≤ 100000 ∧ (Row.R r 5).length < n) :
    ∀ k q : Nat, q + k = r12.length → ∀ f nl acc, k < f → acc.length + k ≤ 200000 → ref11_Body_l3 n s0 b1 j2 s3 s4 b5 r6 s7 b8 j9 s10 b11 r12 b13 r14 f nl acc (q : Int) = some (outV nl acc (bodyS (s0, b1, j2, s3) r14 (r12.drop q)), ()) := by
  intro k
  induction k with
  | zero =>
    intro q hq f nl acc hf hacc
    obtain ⟨f, rfl⟩ : ∃ z, f = z + 1 := ⟨f - 1, by omega⟩
    rw [ref11_Body_s3, List.drop_eq_nil_of_le (by omega)]
    have h1 : ¬ ((q : Int) < (r12.length : Int)) := by omega
    simp only [h1, decide_false, cond_false, bodyS, outV, List.isEmpty_nil, Bool.and_true, List.append_nil]
  | succ k ih =>
    intro q hq f nl acc hf hacc
    obtain ⟨f, rfl⟩ : ∃ z, f = z + 1 := ⟨f - 1, by omega⟩
    have hlt : q < r12.length := by omega
    have h1 : (q : Int) < (r12.length : Int) := by omega
    have h0 : (0 : Int) ≤ (q : Int) := by omega
    have hl : (acc.length + 1) * 72 ≤ 140737488355328 := by omega
    have hr := ha _ (List.getElem_mem hlt)
    have m6 : (Row.S r12[q] 6, Row.B r12[q] 7, Row.I r12[q] 8, Row.S r12[q] 9) = tmAt r12[q] 6 := rfl
    have m0 : (Row.S r12[q] 0, Row.B r12[q] 1, Row.I r12[q] 2, Row.S r12[q] 3) = tmAt r12[q] 0 := rfl
    obtain ⟨zh, eh, gh⟩ := ref11_name_q (n := n) (v := s0) (b := b1) (i := j2) (s := s3) (nl := b13) hb hn
    obtain ⟨za, ea, ga⟩ := ref11_name_q (n := n) (v := Row.S r12[q] 6) (b := Row.B r12[q] 7) (i := Row.I r12[q] 8) (s := Row.S r12[q] 9) (nl := b13) hb hn
    obtain ⟨zb, eb, gb⟩ := ref11_name_q (n := n) (v := Row.S r12[q] 0) (b := Row.B r12[q] 1) (i := Row.I r12[q] 2) (s := Row.S r12[q] 3) (nl := b13) hb hn
    rw [m6] at ga ea
    rw [m0] at gb eb
    have ihq := ih (q + 1) (by omega) f false
    have fin : ∀ (za zb : ByteArray) (p w : Tm), (∀ x, nameS p r14 = some x → za = x) → (∀ x, nameS w r14 = some x → zb = x) →
        (bif !(nameS p r14).isSome then some (((true, []), (false, ())), ()) else bif !(nameS w r14).isSome then some (((true, []), (false, ())), ()) else bif !(outV true [] (valuesS r14 (Row.R r12[q] 5))).snd.fst then some (((true, []), (false, ())), ())
          else if (acc.length + 1) * 72 ≤ 140737488355328 then ref11_Body_l3 n s0 b1 j2 s3 s4 b5 r6 s7 b8 j9 s10 b11 r12 b13 r14 f false (acc ++ [[DV.val (Value.string za), DV.val (Value.string zb), DV.val (Value.string (Row.S r12[q] 4)), DV.sl (outV true [] (valuesS r14 (Row.R r12[q] 5))).fst.fst [Kd.b, Kd.i IntKind.i64, Kd.s] (outV true [] (valuesS r14 (Row.R r12[q] 5))).fst.snd]]) ((q + 1 : Nat) : Int) else none) =
        some (outV nl acc (match (match nameS p r14 with
          | none => none
          | some at_ => match nameS w r14 with
            | none => none
            | some by_ => match valuesS r14 (Row.R r12[q] 5) with
              | none => none
              | some l => some ((at_, by_, Row.S r12[q] 4, l) : Fc)) with
          | none => none
          | some f => match bodyS (s0, b1, j2, s3) r14 (r12.drop (q + 1)) with
            | none => none
            | some m => some (fRow f :: m)), ()) := by
      intro za zb p w h1 h2
      cases hp : nameS p r14 with
      | none => rfl
      | some x1 =>
      obtain rfl := h1 x1 hp
      cases hw : nameS w r14 with
      | none => rfl
      | some x2 =>
      obtain rfl := h2 x2 hw
      cases hv : valuesS r14 (Row.R r12[q] 5) with
      | none => rfl
      | some l =>
        simp only [outV, Option.isSome_some, Bool.not_true, cond_false, hl, if_true, List.nil_append, Bool.true_and]
        rw [ihq _ (by omega) (by simp only [List.length_append, List.length_cons, List.length_nil]; omega)]
        cases bodyS (s0, b1, j2, s3) r14 (r12.drop (q + 1)) with
        | none => rfl
        | some m => simp [outV]
    rw [ref11_Body_s3, List.drop_eq_getElem_cons hlt, wrap_succ (show q < big by unfold big; omega)]
    simp only [h1, h0, decide_true, cond_true, if_true, Int.toNat_natCast, getD_get hlt, obind_some, ref11_none_q, ref11_values_q hb hn hr.1 hr.2, eh, ea, eb, m6, m0, List.length_cons, List.length_nil, Nat.zero_add, appX, List.isEmpty_cons, Bool.and_false, bodyS, bodyOne]
    cases hA : nilT (tmAt r12[q] 6) with
    | true =>
      have o6 : orT (tmAt r12[q] 6) (s0, b1, j2, s3) = (s0, b1, j2, s3) := by unfold orT; rw [hA]; rfl
      simp only [cond_true, o6]
      cases hB : nilT (tmAt r12[q] 0) with
      | true =>
        have o0 : orT (tmAt r12[q] 0) (s0, b1, j2, s3) = (s0, b1, j2, s3) := by unfold orT; rw [hB]; rfl
        simp only [cond_true, o0]
        exact fin zh zh _ _ gh gh
      | false =>
        have o0 : orT (tmAt r12[q] 0) (s0, b1, j2, s3) = tmAt r12[q] 0 := by unfold orT; rw [hB]; rfl
        simp only [cond_false, o0]
        exact fin zh zb _ _ gh gb
    | false =>
      have o6 : orT (tmAt r12[q] 6) (s0, b1, j2, s3) = tmAt r12[q] 6 := by unfold orT; rw [hA]; rfl
      simp only [cond_false, o6]
      cases hB : nilT (tmAt r12[q] 0) with
      | true =>
        have o0 : orT (tmAt r12[q] 0) (tmAt r12[q] 6) = tmAt r12[q] 6 := by unfold orT; rw [hB]; rfl
        simp only [cond_true, o0]
        exact fin za za _ _ ga ga
      | false =>
        have o0 : orT (tmAt r12[q] 0) (tmAt r12[q] 6) = tmAt r12[q] 0 := by unfold orT; rw [hB]; rfl
        simp only [cond_false, o0]
        exact fin za zb _ _ ga gb
theorem ref11_Body_q (hb : r14.length < big) (hn : r14.length < n) (h12 : r12.length ≤ 100000) (hn12 : r12.length < n) (ha : ∀ r ∈ r12, (Row.R r 5).length ≤ 100000 ∧ (Row.R r 5).length < n) :
    ref11_Body_v n s0 b1 j2 s3 s4 b5 r6 s7 b8 j9 s10 b11 r12 b13 r14 = some (outV true [] (bodyS (s0, b1, j2, s3) r14 r12), ()) := by
  rw [ref11_Body_e]
  exact ref11_Body_loop hb hn h12 ha r12.length 0 (by omega) n true [] hn12 (by simp only [List.length_nil]; omega)
end
theorem headS_len {home to : Tm} {pred : ByteArray} {args env : Rows} {f : Fc} (h : headS home to pred args env = some f) : f.2.2.2.length = args.length := by
  unfold headS at h
  split at h
  · cases h
  · split at h
    · cases h
    · split at h
      · cases h
      · rename_i l hl
        cases h
        exact valuesS_len hl
theorem bodyS_fine {home : Tm} {env : Rows} : ∀ {l m : Rows}, bodyS home env l = some m → m.length = l.length ∧ ∀ b, (∀ r ∈ l, (Row.R r 5).length ≤ b) → ∀ r ∈ m, (Row.R r 3).length ≤ b
  | [], m, h => by cases h; exact ⟨rfl, fun _ _ r hr => by cases hr⟩
  | r :: l, m, h => by
    unfold bodyS at h
    split at h
    · cases h
    · rename_i f hf
      split at h
      · cases h
      · rename_i m' hm
        cases h
        obtain ⟨i1, i2⟩ := bodyS_fine hm
        refine ⟨by simp [i1], fun b hb q hq => ?_⟩
        rcases List.mem_cons.1 hq with rfl | hq
        · have : f.2.2.2.length = (Row.R r 5).length := by
            unfold bodyOne at hf
            split at hf
            · cases hf
            · split at hf
              · cases hf
              · split at hf
                · cases hf
                · rename_i l' hl'
                  cases hf
                  exact valuesS_len hl'
          show f.2.2.2.length ≤ b
          rw [this]; exact hb r List.mem_cons_self
        · exact i2 b (fun x hx => hb x (List.mem_cons_of_mem _ hx)) q hq
theorem law11_MatchHeads_pure (s0 : ByteArray) (b1 : Bool) (j2 : Int) (s3 s4 : ByteArray) (b5 : Bool) (r6 : Rows) (s7 : ByteArray) (b8 : Bool) (j9 : Int) (s10 : ByteArray) (b11 : Bool) (r12 : Rows) (b13 : Bool) (r14 : Rows)
    (h0 : s0.size ≤ reachBytes) (h2 : (Lit.int .i64 j2).wf = true) (h3 : s3.size ≤ reachBytes) (h4 : s4.size ≤ reachBytes) (h6 : Fsl b5 kT r6) (h7 : s7.size ≤ reachBytes) (h9 : (Lit.int .i64 j9).wf = true) (h10 : s10.size ≤ reachBytes) (h12 : Fsl b11 kL r12)
    (h14 : Fsl b13 kT r14) : ∃ n, law11_MatchHeads_v n s0 b1 j2 s3 s4 b5 r6 s7 b8 j9 s10 b11 r12 b13 r14 = some (true, ()) := by
  refine ⟨1000000 + r12.length, ?_⟩
  generalize hN : 1000000 + r12.length = n
  rw [law11_MatchHeads_e]
  obtain ⟨b, hb, hl⟩ := light_q (n := n) (b1 := b1) (b8 := b8) (b13 := true) (r14 := []) (b15 := b13) (r16 := r14) ⟨h0, h2, h3, h4, h6, h7, h9, h10, h12⟩ trivial (by simp [reachBytes]) (by omega)
    (fun r hr' => by cases hr') (by simp; omega) (by omega)
  rw [hb]
  simp only [obind_some, mlive_at (n := n) (by omega)]
  cases b with
  | false => rfl
  | true =>
  obtain ⟨g1, g2, g3, _, _, g6⟩ := hl rfl
  simp only [Bool.not_true, cond_false]
  have hbig : r14.length < big := by unfold big; omega
  have ha : ∀ r ∈ r12, (Row.R r 5).length ≤ 100000 ∧ (Row.R r 5).length < n := fun r hr => by have := g3 r hr; omega
  rw [match_Head_q hbig (by omega) (by omega) (by omega), ref11_Head_q hbig (by omega) (by omega) (by omega), match_Body_q hbig (by omega) (by omega) (by omega) ha, ref11_Body_q hbig (by omega) (by omega) (by omega) ha]
  have body : ∀ k : Bool → Option (Bool × Unit), (obind (some (outV true [] (bodyS (s0, b1, j2, s3) r14 r12), ())) fun (y19 : ((Bool × Rows) × Bool × Unit) × Unit) => obind (some (outV true [] (bodyS (s0, b1, j2, s3) r14 r12), ())) fun (y20 : ((Bool × Rows) × Bool × Unit) × Unit) =>
      obind (ref04_Like_v n y19.fst.fst.fst y19.fst.fst.snd y20.fst.fst.fst y20.fst.fst.snd) fun y22 => k y22.fst) = k true := by
    intro k
    simp only [obind_some]
    cases hB : bodyS (s0, b1, j2, s3) r14 r12 with
    | none => simp only [outV, ref04_Like_q (n := n) (r1 := []) (r3 := []) (by unfold big; simp) (by simp; omega) (fun r hr => by cases hr), likeF_refl, obind_some]
    | some m =>
      obtain ⟨i1, i2⟩ := bodyS_fine hB
      have i3 := i2 200 (fun r hr => g3 r hr)
      simp only [outV, List.nil_append, ref04_Like_q (n := n) (r1 := m) (r3 := m) (by unfold big; omega) (by omega) (fun r hr => by have := i3 r hr; unfold big; omega), likeF_refl, obind_some]
  cases hH : headS (s0, b1, j2, s3) (s7, b8, j9, s10) s4 r6 r14 with
  | none =>
    simp only [outH, obind_some, ref04_Order_q (n := n) (r4 := []) (r9 := []) (by unfold big; simp) (by simp; omega), ordF_refl, beq_self_eq_true, cond_true]
    cases hB : bodyS (s0, b1, j2, s3) r14 r12 with
    | none => simp only [outV, ref04_Like_q (n := n) (r1 := []) (r3 := []) (by unfold big; simp) (by simp; omega) (fun r hr => by cases hr), likeF_refl, obind_some, cond_true, beq_self_eq_true]
    | some m =>
      obtain ⟨i1, i2⟩ := bodyS_fine hB
      have i3 := i2 200 (fun r hr => g3 r hr)
      simp only [outV, List.nil_append, ref04_Like_q (n := n) (r1 := m) (r3 := m) (by unfold big; omega) (by omega) (fun r hr => by have := i3 r hr; unfold big; omega), likeF_refl, obind_some, cond_true, beq_self_eq_true]
  | some f =>
    have hf := headS_len hH
    simp only [outH, obind_some, ref04_Order_q (n := n) (r4 := f.2.2.2) (r9 := f.2.2.2) (by unfold big; omega) (by omega), ordF_refl, beq_self_eq_true, cond_true]
    cases hB : bodyS (s0, b1, j2, s3) r14 r12 with
    | none => simp only [outV, ref04_Like_q (n := n) (r1 := []) (r3 := []) (by unfold big; simp) (by simp; omega) (fun r hr => by cases hr), likeF_refl, obind_some, cond_true, beq_self_eq_true]
    | some m =>
      obtain ⟨i1, i2⟩ := bodyS_fine hB
      have i3 := i2 200 (fun r hr => g3 r hr)
      simp only [outV, List.nil_append, ref04_Like_q (n := n) (r1 := m) (r3 := m) (by unfold big; omega) (by omega) (fun r hr => by have := i3 r hr; unfold big; omega), likeF_refl, obind_some, cond_true, beq_self_eq_true]
end Go.Den
