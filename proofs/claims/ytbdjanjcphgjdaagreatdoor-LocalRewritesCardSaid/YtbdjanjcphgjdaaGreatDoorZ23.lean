import Derived.Test.YtbdjanjcphgjdaaGreatDoorZ20
import Derived.Test.YtbdjanjcphgjdaaGreatDoorZ22
set_option linter.unusedVariables false
set_option linter.unusedSimpArgs false
set_option linter.unusedSectionVars false
namespace Go.Den
open Go.Proofs
theorem weight5_ge {most : Int} : ∀ (l : Rows) (z : Int), RowsFine kR l → z ≤ weight5 most l z
 |[], z, _ => Int.le_refl _
 |r :: l, z, h => by
  unfold weight5
  have hfr := fineR ⟨h.1, h.2.1⟩
  have hb := w5l_bound hfr.1 hfr.2.1
  have hfl : ∀ q ∈ Row.R r 10, 0 ≤ w5l q := fun q hq => by
   have hfl := fineL (rowsFine_mem hfr.2.2.2 hq)
   have := w5l_bound hfl.1 hfl.2
   omega
  have a1 := sumTo_ge (most := most) (f := w5l) (Row.R r 10) (z + w5l r) hfl
  have := weight5_ge (most := most) l (w5r most r z) h.2.2
  unfold w5r at *
  cases decide (z ≤ most) with
  |true => simp only [cond_true]; omega
  |false => simp only [cond_false]; omega
theorem weight5_all2 {most : Int} : ∀ (l : Rows) (z : Int), RowsFine kR l → 0 ≤ z → weight5 most l z ≤ most → z + l.length ≤ most ∧ ∀ r ∈ l, w5l r ≤ most ∧ ((Row.R r 10).length : Int) ≤ most ∧ ∀ q ∈ Row.R r 10, w5l q ≤ most
 |[], z, _, _, hm => ⟨by simpa [weight5] using hm, fun r hr => by cases hr⟩
 |r :: l, z, h, hz, hm => by
  unfold weight5 at hm
  have hfr := fineR ⟨h.1, h.2.1⟩
  have hb := w5l_bound hfr.1 hfr.2.1
  by_cases hzm : z ≤ most
  ·simp only [hzm, decide_true, cond_true] at hm
   have hfl : ∀ q ∈ Row.R r 10, 1 ≤ w5l q := fun q hq => by
    have hfl := fineL (rowsFine_mem hfr.2.2.2 hq)
    have := w5l_bound hfl.1 hfl.2
    omega
   have g := weight5_ge (most := most) l (w5r most r z) h.2.2
   have a1 := sumTo_ge (most := most) (f := w5l) (Row.R r 10) (z + w5l r) (fun q hq => by have := hfl q hq; omega)
   obtain ⟨b1, b2⟩ := sumTo_all (most := most) (f := w5l) (Row.R r 10) (z + w5l r) hfl (show w5r most r z ≤ most from Int.le_trans g hm)
   obtain ⟨c1, c2⟩ := weight5_all2 l (w5r most r z) h.2.2 (by unfold w5r; omega) hm
   unfold w5r at c1 g
   refine ⟨by simp only [List.length_cons]; omega, fun q hq => ?_⟩
   rcases List.mem_cons.1 hq with rfl | hq
   ·refine ⟨by omega, by omega, fun p hp => ?_⟩
    have := b2 p hp
    omega
   ·exact c2 q hq
  ·rw [decide_eq_false hzm] at hm
   exact absurd hm hzm
theorem w5l_le {r : Row} (hl : (Row.R r 5).length ≤ reachBytes) (hs : (Row.S r 4).size ≤ reachBytes) (h : w5l r ≤ 300) : (Row.R r 5).length ≤ 300 ∧ (Row.S r 4).size ≤ 5000 := by
 have hb := w5l_bound hl hs
 unfold w5l at h hb
 have e : Int.tdiv ((Row.S r 4).size : Int) 16 = (((Row.S r 4).size / 16 : Nat) : Int) := rfl
 have ht := tdiv16 (n := (Row.S r 4).size) (by omega)
 rw [e] at h ht
 have : (Row.S r 4).size / 16 ≤ 300 := by omega
 omega
def bigN : Nat := reachBytes + 20000
theorem bigN_lt {k : Nat} (h : k ≤ reachBytes) : k < bigN := by unfold bigN; omega
theorem bigN_big : 10000 < bigN := by unfold bigN; omega
theorem tmOk {ks : List Kd} {r : Row} {o : Nat} (h : Row.ofKds ks r = true ∧ RowFine r) (hk : ks[o + 2]? = some (.i .i64)) : TmOk bigN (tmAt r o) := by
 have h2 := lit_i64 (fine_I (j := o + 2) h.1 h.2 hk)
 have h3 : (Row.S r (o + 3)).size ≤ reachBytes := fine_S h.2
 exact ⟨by show _ ≤ Row.I r (o + 2); omega, by show Row.I r (o + 2) ≤ _; omega, h3, bigN_lt h3⟩
theorem argsOk {rows : Rows} (h : RowsFine kT rows) : ∀ r ∈ rows, TmOk bigN (tmAt r 0) := fun r hr => tmOk (rowsFine_mem h hr) rfl
theorem litOk {l : Row} (h : Row.ofKds kL l = true ∧ RowFine l) (hw : w5l l ≤ 300) : LitOk bigN l := by
 have hs := fine_sl (j := 5) h.1 h.2 rfl
 have := w5l_le hs.1 (fine_S h.2) hw
 exact ⟨tmOk h rfl, this.2, by omega, argsOk hs.2.2.1, tmOk h rfl⟩
theorem ruleOk {r : Row} (h : Row.ofKds kR r = true ∧ RowFine r) (hw : w5l r ≤ 300) (hb : ((Row.R r 10).length : Int) ≤ 300) (hl : ∀ q ∈ Row.R r 10, w5l q ≤ 300) : RuleOk bigN r := by
 have hs := fine_sl (j := 5) h.1 h.2 rfl
 have hs10 := fine_sl (j := 10) h.1 h.2 rfl
 have := w5l_le hs.1 (fine_S h.2) hw
 exact ⟨tmOk h rfl, this.2, by omega, argsOk hs.2.2.1, tmOk h rfl, by omega, fun l hl' => litOk (rowsFine_mem hs10.2.2.1 hl') (hl l hl')⟩
structure RulesOk (l : Rows) : Prop where
 len : l.length ≤ 300
 ok : ∀ r ∈ l, RuleOk bigN r
 copy : ∀ r ∈ l, CopyOk bigN r
 small : ∀ r ∈ l, Small2 bigN r
theorem rulesOk {l : Rows} (h : RowsFine kR l) (hw : weight5 300 l 0 ≤ 300) : RulesOk l := by
 obtain ⟨h1, h2⟩ := weight5_all2 l 0 h (Int.le_refl _) hw
 have hk : ∀ r ∈ l, ∀ q ∈ Row.R r 10, Row.ofKds kL q = true ∧ RowFine q := fun r hr q hq => rowsFine_mem (fine_sl (j := 10) (rowsFine_mem h hr).1 (rowsFine_mem h hr).2 rfl).2.2.1 hq
 have hB : big = 4611686018427387904 ∨ 1000000 ≤ big := .inr (by unfold big; omega)
 have hb : 1000000 ≤ big := by unfold big; omega
 refine ⟨by omega, fun r hr => ruleOk (rowsFine_mem h hr) (h2 r hr).1 (h2 r hr).2.1 (h2 r hr).2.2, fun r hr => ?_, fun r hr => ?_⟩
 ·have hR := ruleOk (rowsFine_mem h hr) (h2 r hr).1 (h2 r hr).2.1 (h2 r hr).2.2
  exact ⟨hR.len, hR.blen, fun q hq => (hR.body q hq).len, fun q hq => by have := Row.ofKds_length (hk r hr q hq).1; simp at this; omega⟩
 ·have hR := ruleOk (rowsFine_mem h hr) (h2 r hr).1 (h2 r hr).2.1 (h2 r hr).2.2
  have hN := bigN_big
  have a1 := hR.len
  have a2 := hR.blen
  exact ⟨⟨by omega, by omega⟩, ⟨⟨by omega, by omega⟩, fun q hq => by have := (hR.body q hq).len; exact ⟨by omega, by omega⟩⟩⟩
end Go.Den
