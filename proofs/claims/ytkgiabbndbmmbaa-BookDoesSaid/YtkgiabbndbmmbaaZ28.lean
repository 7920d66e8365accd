import Derived.Test.YtkgiabbndbmmbaaZ27
set_option linter.unusedVariables false
set_option linter.unusedSimpArgs false
set_option linter.unusedSectionVars false
namespace Go.Den
open Go.Proofs
@[reducible] def kD : List Kd := [.i .i64, .s, .s, .s, .sl kC, .sl kF]
@[reducible] def hd (r : Row) : Row := [DV.val (Value.string (Row.S r 1)), DV.val (Value.string (Row.S r 2)), DV.val (Value.string (Row.S r 3)), DV.sl (Row.N r 4) [Kd.b, Kd.i IntKind.i64, Kd.s] (Row.R r 4)]
def w16 (most : Int) (r : Row) : Int := 1 + weight4 most [hd r] 0 + weight4 most (Row.R r 5) 0
theorem weight4_le {most : Int} : ∀ (l : Rows) (z : Int), RowsFine kF l → z ≤ most + 2000000000000000 → weight4 most l z ≤ most + 2000000000000000
 |[], z, _, h => h
 |r :: l, z, h, hz => by
  unfold weight4
  have hfr := fineF ⟨h.1, h.2.1⟩
  have hb := w4f_bound hfr.1 hfr.2.1 hfr.2.2.1 hfr.2.2.2.1
  have hfl : ∀ q ∈ Row.R r 3, w4c q ≤ 1000000000000000 := fun q hq => (w4c_bound (fine_S (rowsFine_mem hfr.2.2.2.2 hq).2)).2
  by_cases hzm : z ≤ most
  ·simp only [hzm, decide_true, cond_true]
   have := sumTo_le (most := most) (f := w4c) (b := 1000000000000000) (by omega) (Row.R r 3) (z + w4f r) hfl (by omega)
   exact weight4_le l _ h.2.2 (by unfold w4r; omega)
  ·simp only [hzm, decide_false, cond_false]; exact hz
theorem fineD {r : Row} (h : Row.ofKds kD r = true ∧ RowFine r) : RowsFine kF [hd r] ∧ Fsl (Row.N r 4) kC (Row.R r 4) ∧ Fsl (Row.N r 5) kF (Row.R r 5) := by
 have h4 := fine_sl (j := 4) h.1 h.2 rfl
 have h5 := fine_sl (j := 5) h.1 h.2 rfl
 exact ⟨⟨rfl, ⟨fine_S h.2, fine_S h.2, fine_S h.2, h4, trivial⟩, trivial⟩, h4, h5⟩
theorem w16_bound {most : Int} (hm0 : 0 ≤ most) (hm : most ≤ 1000000) {r : Row} (h : Row.ofKds kD r = true ∧ RowFine r) : 1 ≤ w16 most r ∧ 0 ≤ weight4 most [hd r] 0 ∧ 0 ≤ weight4 most (Row.R r 5) 0 ∧ weight4 most [hd r] 0 ≤ 3000000000000000 ∧ weight4 most (Row.R r 5) 0 ≤ 3000000000000000 := by
 obtain ⟨h1, _, h5⟩ := fineD h
 have a1 := weight4_ge (most := most) [hd r] 0 h1
 have a2 := weight4_ge (most := most) (Row.R r 5) 0 h5.2.2.1
 have a3 := weight4_le (most := most) [hd r] 0 h1 (by omega)
 have a4 := weight4_le (most := most) (Row.R r 5) 0 h5.2.2.1 (by omega)
 unfold w16
 omega
def WideD (n : Nat) (r : Row) : Prop := (Row.R r 4).length < n ∧ (Row.R r 5).length < n ∧ ∀ f ∈ Row.R r 5, (Row.R f 3).length < n
section
variable {n : Nat} {b0 : Bool} {most : Int} (hm0 : 0 ≤ most) (hm : most ≤ 1000000)
include hm0 hm
theorem weight16_loop {r1 : Rows} (hr : RowsFine kD r1) (hlen : r1.length ≤ reachBytes) (h1 : 1 < n) (hn : ∀ r ∈ r1, WideD n r) : ∀ k q : Nat, q + k = r1.length → ∀ i z, k < i → 0 ≤ z → z ≤ most + 6000000000000001 →
  z34_l3 n b0 r1 most i z (q : Int) = some (sumTo most (w16 most) (r1.drop q) z, ()) := by
 intro k
 induction k with
 |zero =>
  intro q hq i z hi h0 hz
  obtain ⟨i, rfl⟩ : ∃ m, i = m + 1 := ⟨i - 1, by omega⟩
  rw [z34_s3, List.drop_eq_nil_of_le (by omega)]
  have h1 : ¬ (q : Int) < (r1.length : Int) := by omega
  simp only [h1, decide_false, cond_false, sumTo]
 |succ k ih =>
  intro q hq i z hi h0 hz
  obtain ⟨i, rfl⟩ : ∃ m, i = m + 1 := ⟨i - 1, by omega⟩
  have hlt : q < r1.length := by omega
  have hfr := rowsFine_get hr hlt
  obtain ⟨f1, f4, f5⟩ := fineD hfr
  have hw := hn _ (List.getElem_mem hlt)
  rw [z34_s3, List.drop_eq_getElem_cons hlt]
  have g1 : (q : Int) < (r1.length : Int) := by omega
  have g2 : (0 : Int) ≤ (q : Int) := by omega
  have e1 : z33_v n false [hd r1[q]] most = some (weight4 most [hd r1[q]] 0, ()) := weight4_q hm0 hm f1 (by unfold reachBytes; simp) (fun r hr' => by rw [List.mem_singleton] at hr'; subst hr'; exact hw.1) (by simpa using h1)
  have e2 : z33_v n (Row.N r1[q] 5) (Row.R r1[q] 5) most = some (weight4 most (Row.R r1[q] 5) 0, ()) := weight4_q hm0 hm f5.2.2.1 f5.1 hw.2.2 hw.2.1
  simp only [g1, g2, if_true, decide_true, cond_true, Int.toNat_natCast, getD_get hlt, sumTo]
  by_cases hzm : z ≤ most
  ·obtain ⟨b1, b2, b3, b4, b5⟩ := w16_bound hm0 hm hfr
   have wq : IntKind.wrap IntKind.i64 ((q : Int) + 1) = ((q + 1 : Nat) : Int) := wrap_succ (by unfold reachBytes at *; unfold big; omega)
   have ww : IntKind.wrap IntKind.i64 (z + IntKind.wrap IntKind.i64 (IntKind.wrap IntKind.i64 (1 + weight4 most [hd r1[q]] 0) + weight4 most (Row.R r1[q] 5) 0)) = z + w16 most r1[q] := by
    unfold w16
    rw [wrap_small (z := 1 + weight4 most [hd r1[q]] 0) (by omega) (by omega), wrap_small (z := 1 + weight4 most [hd r1[q]] 0 + weight4 most (Row.R r1[q] 5) 0) (by omega) (by omega), wrap_small (by omega) (by omega)]
   simp only [hzm, decide_true, cond_true, e1, e2, obind_some, ww, wq]
   exact ih (q + 1) (by omega) i _ (by omega) (by omega) (by unfold w16; omega)
  ·simp only [hzm, decide_false, cond_false]
theorem weight16_q {r1 : Rows} (hr : RowsFine kD r1) (hlen : r1.length ≤ reachBytes) (h1 : 1 < n) (hn : ∀ r ∈ r1, WideD n r) (hn' : r1.length < n) : z34_v n b0 r1 most = some (sumTo most (w16 most) r1 0, ()) := by
 rw [z34_e]
 have := weight16_loop hm0 hm (n := n) (b0 := b0) hr hlen h1 hn r1.length 0 (by omega) n 0 hn' (by omega) (by omega)
 simpa using this
end
theorem small16 {most : Int} (hm0 : 0 ≤ most) (hm : most ≤ 500) {l : Rows} (h : RowsFine kD l) (hs : sumTo most (w16 most) l 0 ≤ most) : SmallDs l ∧ (l.length : Int) ≤ most := by
 obtain ⟨a1, a2⟩ := sumTo_all (most := most) (f := w16 most) l 0 (fun r hr => (w16_bound hm0 (by omega) (rowsFine_mem h hr)).1) hs
 refine ⟨fun r hr => ?_, by omega⟩
 have hf := rowsFine_mem h hr
 obtain ⟨f1, f4, f5⟩ := fineD hf
 obtain ⟨b1, b2, b3, _, _⟩ := w16_bound (most := most) hm0 (by omega) hf
 have h2 : w16 most r ≤ most := by have := a2 r hr; omega
 unfold w16 at h2
 obtain ⟨_, c1⟩ := weight4_all (most := most) [hd r] 0 f1 (by omega) (by omega)
 obtain ⟨c2, c3⟩ := weight4_all (most := most) (Row.R r 5) 0 f5.2.2.1 (by omega) (by omega)
 have c4 := c1 (hd r) List.mem_cons_self
 have e4 : Row.R (hd r) 3 = Row.R r 4 := rfl
 rw [e4] at c4
 refine ⟨by omega, f4.2.1, fun f hf' => ?_, by omega, f5.2.1⟩
 have h3 := c3 f hf'
 exact ⟨by omega, (fine_sl (j := 3) (rowsFine_mem f5.2.2.1 hf').1 (rowsFine_mem f5.2.2.1 hf').2 rfl).2.1⟩
def szF (l : Rows) : Nat := (l.map fun r => (Row.R r 3).length).sum
def szD (l : Rows) : Nat := (l.map fun r => (Row.R r 4).length + (Row.R r 5).length + szF (Row.R r 5)).sum
theorem szD_mem {l : Rows} {n : Nat} (h : szD l < n) : ∀ r ∈ l, WideD n r := by
 unfold szD at h
 induction l with
 |nil => intro r hr; cases hr
 |cons x l ih =>
  rw [List.map_cons, List.sum_cons] at h
  intro r hr
  rcases List.mem_cons.1 hr with rfl | hr
  ·refine ⟨by omega, by omega, fun f hf => ?_⟩
   have := sum_rows f hf
   unfold szF at h
   omega
  ·exact ih (by omega) r hr
section
variable {n : Nat} (hn : 1000 < n)
include hn
end
end Go.Den
