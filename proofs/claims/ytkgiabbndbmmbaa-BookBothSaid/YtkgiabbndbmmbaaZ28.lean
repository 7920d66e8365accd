import Derived.Test.YtkgiabbndbmmbaaZ27
set_option linter.unusedVariables false
set_option linter.unusedSimpArgs false
set_option linter.unusedSectionVars false
namespace Go.Den
open Go.Proofs
@[reducible] def kD : List Kd := [.i .i64, .s, .s, .s, .sl kC, .sl kF]
@[reducible] def hd (r : Row) : Row := [DV.val (Value.string (Row.S r 1)), DV.val (Value.string (Row.S r 2)), DV.val (Value.string (Row.S r 3)), DV.sl (Row.N r 4) [Kd.b, Kd.i IntKind.i64, Kd.s] (Row.R r 4)]
def w16 (most : Int) (r : Row) : Int := 1 + weight4 most [hd r] 0 + weight4 most (Row.R r 5) 0
theorem weight4_le {most : Int} : ∀ (l : Rows) (z : Int), RowsFine kF l → z ≤ most + 2000000000000000 → weight4 most l z ≤ most + 2000000000000000
  | [], z, _, h => h
  | r :: l, z, h, hz => by
    unfold weight4
    have hfr := fineF ⟨h.1, h.2.1⟩
    have hb := w4f_bound hfr.1 hfr.2.1 hfr.2.2.1 hfr.2.2.2.1
    have hfl : ∀ q ∈ Row.R r 3, w4c q ≤ 1000000000000000 := fun q hq => (w4c_bound (fine_S (rowsFine_mem hfr.2.2.2.2 hq).2)).2
    by_cases hzm : z ≤ most
    · simp only [hzm, decide_true, cond_true]
      have := sumTo_le (most := most) (f := w4c) (b := 1000000000000000) (by omega) (Row.R r 3) (z + w4f r) hfl (by omega)
      exact weight4_le l _ h.2.2 (by unfold w4r; omega)
    · simp only [hzm, decide_false, cond_false]; exact hz
theorem fineD {r : Row} (h : Row.ofKds kD r = true ∧ RowFine r) : RowsFine kF [hd r] ∧ Fsl (Row.N r 4) kC (Row.R r 4) ∧ Fsl (Row.N r 5) kF (Row.R r 5) := by
  have h4 := fine_sl (j := 4) h.1 h.2 rfl
  have h5 := fine_sl (j := 5) h.1 h.2 rfl
  exact ⟨⟨rfl, ⟨fine_S h.2, fine_S h.2, fine_S h.2, h4, trivial⟩, trivial⟩, h4, h5⟩
theorem w16_bound {most : Int} (hm0 : 0 ≤ most) (hm : most ≤ 1000000) {r : Row} (h : Row.ofKds kD r = true ∧ RowFine r) : 1 ≤ w16 most r ∧ 0 ≤ weight4 most [hd r] 0 ∧ 0 ≤ weight4 most (Row.R r 5) 0 ∧ weight4 most [hd r] 0 ≤ 3000000000000000 ∧ weight4 most (Row.R r 5) 0 ≤ 3000000000000000 := by
  obtain ⟨h1, _, h5⟩ := fineD h
  have a1 := weight4_ge (most := most) [hd r] 0 h1
  have a2 := weight4_ge (most := most) (Row.R r 5) 0 h5.2.2.1
  have a3 := weight4_le (most := most) [hd r] 0 h1 (by omega)
  have a4 := weight4_le (most := most) (Row.R r 5) 0 h5.2.2.1 (by omega)
  unfold w16
  omega
def WideD (n : Nat) (r : Row) : Prop := (Row.R r 4).length < n ∧ (Row.R r 5).length < n ∧ ∀ f ∈ Row.R r 5, (Row.R f 3).length < n
section
variable {n : Nat} {b0 : Bool} {most : Int} (hm0 : 0 ≤ most) (hm : most ≤ 1000000)
include hm0 hm
theorem weight16_loop {r1 : Rows} (hr : RowsFine kD r1) (hlen : r1.length ≤ reachBytes) (h1 : 1 < n) (hn : ∀ r ∈ r1, WideD n r) : ∀ k q : Nat, q + k = r1.length → ∀ i z, k < i → 0 ≤ z → z ≤ most + 6000000000000001 →
    z29_l3 n b0 r1 most i z (q : Int) = some (sumTo most (w16 most) (r1.drop q) z, ()) := by
  intro k
  induction k with
  | zero =>
    intro q hq i z hi h0 hz
    obtain ⟨i, rfl⟩ : ∃ m, i = m + 1 := ⟨i - 1, by omega⟩
    rw [z29_s3, List.drop_eq_nil_of_le (by omega)]
    have h1 : ¬ (q : Int) < (r1.length : Int) := by omega
    simp only [h1, decide_false, cond_false, sumTo]
  | succ k ih =>
    intro q hq i z hi h0 hz
    obtain ⟨i, rfl⟩ : ∃ m, i = m + 1 := ⟨i - 1, by omega⟩
    have hlt : q < r1.length := by omega
    have hfr := rowsFine_get hr hlt
    obtain ⟨f1, f4, f5⟩ := fineD hfr
    have hw := hn _ (List.getElem_mem hlt)
    rw [z29_s3, List.drop_eq_getElem_cons hlt]
    have g1 : (q : Int) < (r1.length : Int) := by omega
    have g2 : (0 : Int) ≤ (q : Int) := by omega
    have e1 : z33_v n false [hd r1[q]] most = some (weight4 most [hd r1[q]] 0, ()) := weight4_q hm0 hm f1 (by unfold reachBytes; simp) (fun r hr' => by rw [List.mem_singleton] at hr'; subst hr'; exact hw.1) (by simpa using h1)
    have e2 : z33_v n (Row.N r1[q] 5) (Row.R r1[q] 5) most = some (weight4 most (Row.R r1[q] 5) 0, ()) := weight4_q hm0 hm f5.2.2.1 f5.1 hw.2.2 hw.2.1
    simp only [g1, g2, if_true, decide_true, cond_true, Int.toNat_natCast, getD_get hlt, sumTo]
    by_cases hzm : z ≤ most
    · obtain ⟨b1, b2, b3, b4, b5⟩ := w16_bound hm0 hm hfr
      have wq : IntKind.wrap IntKind.i64 ((q : Int) + 1) = ((q + 1 : Nat) : Int) := wrap_succ (by unfold reachBytes at *; unfold big; omega)
      have ww : IntKind.wrap IntKind.i64 (z + IntKind.wrap IntKind.i64 (IntKind.wrap IntKind.i64 (1 + weight4 most [hd r1[q]] 0) + weight4 most (Row.R r1[q] 5) 0)) = z + w16 most r1[q] := by
        unfold w16
        rw [wrap_small (z := 1 + weight4 most [hd r1[q]] 0) (by omega) (by omega), wrap_small (z := 1 + weight4 most [hd r1[q]] 0 + weight4 most (Row.R r1[q] 5) 0) (by omega) (by omega), wrap_small (by omega) (by omega)]
      simp only [hzm, decide_true, cond_true, e1, e2, obind_some, ww, wq]
      exact ih (q + 1) (by omega) i _ (by omega) (by omega) (by unfold w16; omega)
    · simp only [hzm, decide_false, cond_false]
theorem weight16_q {r1 : Rows} (hr : RowsFine kD r1) (hlen : r1.length ≤ reachBytes) (h1 : 1 < n) (hn : ∀ r ∈ r1, WideD n r) (hn' : r1.length < n) : z29_v n b0 r1 most = some (sumTo most (w16 most) r1 0, ()) := by
  rw [z29_e]
  have := weight16_loop hm0 hm (n := n) (b0 := b0) hr hlen h1 hn r1.length 0 (by omega) n 0 hn' (by omega) (by omega)
  simpa using this
end
theorem small16 {most : Int} (hm0 : 0 ≤ most) (hm : most ≤ 500) {l : Rows} (h : RowsFine kD l) (hs : sumTo most (w16 most) l 0 ≤ most) : SmallDs l ∧ (l.length : Int) ≤ most := by
  obtain ⟨a1, a2⟩ := sumTo_all (most := most) (f := w16 most) l 0 (fun r hr => (w16_bound hm0 (by omega) (rowsFine_mem h hr)).1) hs
  refine ⟨fun r hr => ?_, by omega⟩
  have hf := rowsFine_mem h hr
  obtain ⟨f1, f4, f5⟩ := fineD hf
  obtain ⟨b1, b2, b3, _, _⟩ := w16_bound (most := most) hm0 (by omega) hf
  have h2 : w16 most r ≤ most := by have := a2 r hr; omega
  unfold w16 at h2
  obtain ⟨_, c1⟩ := weight4_all (most := most) [hd r] 0 f1 (by omega) (by omega)
  obtain ⟨c2, c3⟩ := weight4_all (most := most) (Row.R r 5) 0 f5.2.2.1 (by omega) (by omega)
  have c4 := c1 (hd r) List.mem_cons_self
  have e4 : Row.R (hd r) 3 = Row.R r 4 := rfl
  rw [e4] at c4
  refine ⟨by omega, f4.2.1, fun f hf' => ?_, by omega, f5.2.1⟩
  have h3 := c3 f hf'
  exact ⟨by omega, (fine_sl (j := 3) (rowsFine_mem f5.2.2.1 hf').1 (rowsFine_mem f5.2.2.1 hf').2 rfl).2.1⟩
def szF (l : Rows) : Nat := (l.map fun r => (Row.R r 3).length).sum
def szD (l : Rows) : Nat := (l.map fun r => (Row.R r 4).length + (Row.R r 5).length + szF (Row.R r 5)).sum
theorem szD_mem {l : Rows} {n : Nat} (h : szD l < n) : ∀ r ∈ l, WideD n r := by
  unfold szD at h
  induction l with
  | nil => intro r hr; cases hr
  | cons x l ih =>
    rw [List.map_cons, List.sum_cons] at h
    intro r hr
    rcases List.mem_cons.1 hr with rfl | hr
    · refine ⟨by omega, by omega, fun f hf => ?_⟩
      have := sum_rows f hf
      unfold szF at h
      omega
    · exact ih (by omega) r hr
def insAll (acc : List KD) : List KD → List KD
  | [] => acc
  | d :: l => insAll (insO ordD d acc) l
theorem insAll_ok : ∀ {l acc : List KD}, Asc ordD acc → Asc ordD (insAll acc l) ∧ (∀ d, InO ordD (insAll acc l) d ↔ InO ordD acc d ∨ InO ordD l d) ∧ (∀ d ∈ insAll acc l, d ∈ acc ∨ d ∈ l)
  | [], acc, h => ⟨h, fun d => ⟨.inl, fun h => h.resolve_right (fun ⟨k, hk, _⟩ => by cases hk)⟩, fun d hd => .inl hd⟩
  | x :: l, acc, h => by
    obtain ⟨a1, a2, a3⟩ := insAll_ok (l := l) (insO_asc ordD_ord (f := x) h)
    refine ⟨a1, fun d => ?_, fun d hd => ?_⟩
    · unfold insAll
      rw [a2 d, insO_in ordD_ord d]
      constructor
      · rintro ((h1 | h1) | ⟨k, hk, e⟩)
        · exact .inr ⟨x, List.mem_cons_self, h1⟩
        · exact .inl h1
        · exact .inr ⟨k, List.mem_cons_of_mem _ hk, e⟩
      · rintro (h1 | ⟨k, hk, e⟩)
        · exact .inl (.inr h1)
        · rcases List.mem_cons.1 hk with rfl | hk
          · exact .inl (.inl e)
          · exact .inr ⟨k, hk, e⟩
    · rcases a3 d hd with h1 | h1
      · rcases insO_mem h1 with rfl | h1
        · exact .inr List.mem_cons_self
        · exact .inl h1
      · exact .inr (List.mem_cons_of_mem _ h1)
section
variable {n : Nat} (hn : 1000 < n)
include hn
theorem made_loop {b0 : Bool} {r1 : Rows} (h1 : SmallDs r1) (hl : r1.length ≤ 500) : ∀ k q : Nat, q + k = r1.length → ∀ f b3 r4 b9 r10 (acc : List KD), k < f → r4.map dr = acc → r10.map dr = acc → Asc ordD acc → SmallDs r4 → SmallDs r10 → (b3 = true → r4 = []) → acc.length ≤ q →
    ∃ b3' r4' b9' r10', z39_l4 n b0 r1 f b3 r4 true (q : Int) b9 r10 = some (((), ((), ())), (((b3', r4'), (true, ())), (((b9', r10'), ()), ()))) ∧
      r4'.map dr = insAll acc ((r1.drop q).map dr) ∧ r10'.map dr = insAll acc ((r1.drop q).map dr) ∧ SmallDs r4' ∧ SmallDs r10' ∧ (b3' = true → r4' = []) ∧ r4'.length ≤ r1.length ∧ r10'.length ≤ r1.length := by
  intro k
  induction k with
  | zero =>
    intro q hq f b3 r4 b9 r10 acc hf e4 e10 ha s4 s10 hb hlen
    obtain ⟨f, rfl⟩ : ∃ z, f = z + 1 := ⟨f - 1, by omega⟩
    rw [z39_s4, List.drop_eq_nil_of_le (show r1.length ≤ q by omega)]
    have g1 : ¬ ((q : Int) < (r1.length : Int)) := by omega
    simp only [g1, decide_false, cond_false]
    have l4 := congrArg List.length e4
    have l10 := congrArg List.length e10
    rw [List.length_map] at l4 l10
    exact ⟨b3, r4, b9, r10, rfl, e4, e10, s4, s10, hb, by omega, by omega⟩
  | succ k ih =>
    intro q hq f b3 r4 b9 r10 acc hf e4 e10 ha s4 s10 hb hlen
    obtain ⟨f, rfl⟩ : ∃ z, f = z + 1 := ⟨f - 1, by omega⟩
    have hlt : q < r1.length := by omega
    have g1 : (q : Int) < (r1.length : Int) := by omega
    have g0 : (0 : Int) ≤ (q : Int) := by omega
    have hx := h1 _ (List.getElem_mem hlt)
    have l4 := congrArg List.length e4
    have l10 := congrArg List.length e10
    rw [List.length_map] at l4 l10
    obtain ⟨bz, rows, a1, a2, a3, a4⟩ := add_q hn (j0 := Row.I r1[q] 0) (s1 := Row.S r1[q] 1) (s2 := Row.S r1[q] 2) (s3 := Row.S r1[q] 3) (b4 := Row.N r1[q] 4) (b6 := Row.N r1[q] 5) (b8 := b3) (r5 := Row.R r1[q] 4) (r7 := Row.R r1[q] 5) (r9 := r4) hx.1 hx.2.1 hx.2.2.1 hx.2.2.2.1 hx.2.2.2.2 s4 (by omega) (by rw [e4]; exact ha) hb
    obtain ⟨cz, rowc, c1, c2, c3⟩ := refAdd_q hn (j0 := Row.I r1[q] 0) (s1 := Row.S r1[q] 1) (s2 := Row.S r1[q] 2) (s3 := Row.S r1[q] 3) (b4 := Row.N r1[q] 4) (b6 := Row.N r1[q] 5) (b8 := b9) (r5 := Row.R r1[q] 4) (r7 := Row.R r1[q] 5) (r9 := r10) hx.1 hx.2.1 hx.2.2.1 hx.2.2.2.1 hx.2.2.2.2 s10 (by omega)
    rw [z39_s4, List.drop_eq_getElem_cons hlt, List.map_cons, wrap_succ (show q < big by unfold big; omega)]
    simp only [g1, g0, decide_true, cond_true, if_true, Int.toNat_natCast, getD_get hlt, a1, c1, obind_some]
    have hi := insO_length (c := ordD) (f := dr r1[q]) acc
    rw [e4] at a2
    rw [e10] at c2
    exact ih (q + 1) (by omega) f bz rows cz rowc (insO ordD (dr r1[q]) acc) (by omega) a2 c2 (insO_asc ordD_ord ha) a3 c3 a4 (by omega)
theorem made_q {b0 : Bool} {r1 : Rows} (h1 : SmallDs r1) (hl : r1.length ≤ 500) :
    ∃ b3' r4' b9' r10', z39_v n b0 r1 = some (((), ((), ())), (((b3', r4'), (true, ())), (((b9', r10'), ()), ()))) ∧
      r4'.map dr = insAll [] (r1.map dr) ∧ r10'.map dr = insAll [] (r1.map dr) ∧ SmallDs r4' ∧ SmallDs r10' ∧ (b3' = true → r4' = []) ∧ r4'.length ≤ r1.length ∧ r10'.length ≤ r1.length := by
  rw [z39_e, z53_e]
  simp only [obind_some]
  have := made_loop hn (b0 := b0) h1 hl r1.length 0 (by omega) n true [] true [] [] (by omega) rfl rfl List.Pairwise.nil (fun r hr => by cases hr) (fun r hr => by cases hr) (fun _ => rfl) (Nat.le_refl _)
  simpa using this
end
theorem Fnd.mono {L L' : List KD} {B B' : List KF} (hL : ∀ d ∈ L, d ∈ L') (hB : ∀ f, InK B f → InK B' f) {f : KF} (h : Fnd L B f) : Fnd L' B' f := by
  induction h with
  | base f h => exact .base f (hB f h)
  | step d f hd he _ ih => exact .step d f (hL d hd) he ih
end Go.Den
