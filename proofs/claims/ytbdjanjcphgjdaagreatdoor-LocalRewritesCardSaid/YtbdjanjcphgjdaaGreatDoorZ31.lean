import Derived.Test.YtbdjanjcphgjdaaGreatDoorZ30
set_option linter.unusedVariables false
set_option linter.unusedSimpArgs false
set_option linter.unusedSectionVars false
namespace Go.Den
open Go.Proofs
set_option linter.unusedVariables false
@[reducible] def tvar (s : ByteArray) : Row := [DV.val (.string s), DV.val (.bool false), DV.val (.int .i64 0), DV.val (.string (ByteArray.mk #[]))]
theorem lterms_l {n : Nat} {b0 : Bool} {v : List ByteArray} (hv : v.length ≤ 1900000) : ∀ k q : Nat, q + k = v.length → ∀ (i : Nat) (b : Bool) (acc : List ByteArray), k < i → acc.length = q →
  ∃ b', z41_l3 n b0 (sr v) i b (acc.map tvar) (q : Int) = some ((b', (acc ++ v.drop q).map tvar), ()) := by
 have hb : 4000000 ≤ big := by unfold big; omega
 intro k
 induction k with
 |zero =>
  intro q hq i b acc hi ha
  obtain ⟨i, rfl⟩ : ∃ m, i = m + 1 := ⟨i - 1, by omega⟩
  have hnil : v.drop q = [] := List.drop_eq_nil_of_le (by omega)
  rw [z41_s3, hnil, List.append_nil]
  have h1 : ¬ (q : Int) < ((sr v).length : Int) := by rw [sr_len]; omega
  simp only [h1, decide_false, cond_false]
  exact ⟨b, rfl⟩
 |succ k ih =>
  intro q hq i b acc hi ha
  obtain ⟨i, rfl⟩ : ∃ m, i = m + 1 := ⟨i - 1, by omega⟩
  have hlt : q < v.length := by omega
  have h1 : (q : Int) < ((sr v).length : Int) := by rw [sr_len]; omega
  have hd : v.drop q = v[q] :: v.drop (q + 1) := List.drop_eq_getElem_cons hlt
  have hlen : ((acc.map tvar).length + List.length [tvar v[q]]) * 48 ≤ 140737488355328 := by rw [List.length_map]; show (acc.length + 1) * 48 ≤ _; omega
  have hap : appX (acc.map tvar) [tvar v[q]] = (acc ++ [v[q]]).map tvar := by simp [appX]
  rw [z41_s3, wrap_succ (show q < big by omega)]
  simp only [h1, natj, if_true, decide_true, cond_true, Int.toNat_natCast, sr_get hlt]
  obtain ⟨b', hgo⟩ := ih (q + 1) (by omega) i (b && List.isEmpty [tvar v[q]]) (acc ++ [v[q]]) (by omega) (by simp [ha])
  rw [← hap] at hgo
  rw [show [[DV.val (Value.string v[q]), DV.val (Value.bool false), DV.val (Value.int IntKind.i64 0), DV.val (Value.string (ByteArray.mk #[]))]] = [tvar v[q]] from rfl, if_pos hlen]
  refine ⟨b', hgo.trans ?_⟩
  rw [hd]; simp
theorem lterms_q {n : Nat} {b0 : Bool} {v : List ByteArray} (hv : v.length ≤ 1900000) (hn : 2000000 < n) : ∃ b', z41_v n b0 (sr v) = some ((b', v.map tvar), ()) := by
 rw [z41_e]
 exact lterms_l hv v.length 0 (by omega) n true [] (by omega) rfl
@[reducible] def ownR (x : Row) : Row := [DV.val (.string (Row.S x 0)), DV.val (.bool (Row.B x 1)), DV.val (.int .i64 (Row.I x 2)), DV.val (.string (Row.S x 3)), DV.val (.string (Row.S x 4)), DV.sl (true && List.isEmpty (Row.R x 5)) [Kd.s, Kd.b, Kd.i IntKind.i64, Kd.s] (appX [] (Row.R x 5)), DV.val (.string (Row.S x 6)), DV.val (.bool (Row.B x 7)), DV.val (.int .i64 (Row.I x 8)), DV.val (.string (Row.S x 9))]
theorem own_D (x : Row) : litD (ownR x) = litD x := rfl
theorem own_l {n : Nat} {b0 : Bool} {l : Rows} (hl : l.length ≤ 1000000) (ha : ∀ x ∈ l, (Row.R x 5).length ≤ 1900000) : ∀ k q : Nat, q + k = l.length → ∀ (i : Nat) (b : Bool) (acc : Rows), k < i → acc.length = q →
  ∃ b', z79_l3 n b0 l i b acc (q : Int) = some ((b', acc ++ (l.drop q).map ownR), ()) := by
 have hb : 4000000 ≤ big := by unfold big; omega
 intro k
 induction k with
 |zero =>
  intro q hq i b acc hi hac
  obtain ⟨i, rfl⟩ : ∃ m, i = m + 1 := ⟨i - 1, by omega⟩
  have hnil : l.drop q = [] := List.drop_eq_nil_of_le (by omega)
  rw [z79_s3, hnil]
  have h1 : ¬ (q : Int) < (l.length : Int) := by omega
  simp only [h1, decide_false, cond_false, List.map_nil, List.append_nil]
  exact ⟨b, rfl⟩
 |succ k ih =>
  intro q hq i b acc hi hac
  obtain ⟨i, rfl⟩ : ∃ m, i = m + 1 := ⟨i - 1, by omega⟩
  have hlt : q < l.length := by omega
  have h1 : (q : Int) < (l.length : Int) := by omega
  have hd : l.drop q = l[q] :: l.drop (q + 1) := List.drop_eq_getElem_cons hlt
  have hx := ha l[q] (List.getElem_mem hlt)
  have h2 : (0 + (Row.R l[q] 5).length) * 48 ≤ 140737488355328 := by omega
  have h3 : (acc.length + List.length [ownR l[q]]) * 136 ≤ 140737488355328 := by show (acc.length + 1) * 136 ≤ _; omega
  rw [z79_s3, wrap_succ (show q < big by omega)]
  simp only [h1, natj, if_true, decide_true, cond_true, Int.toNat_natCast, getD_get hlt]
  obtain ⟨b', hgo⟩ := ih (q + 1) (by omega) i (b && List.isEmpty [ownR l[q]]) (acc ++ [ownR l[q]]) (by omega) (by simp [hac])
  rw [if_pos h2, if_pos h3]
  refine ⟨b', hgo.trans ?_⟩
  rw [hd, List.map_cons, List.append_assoc]; rfl
theorem own_q {n : Nat} {b0 : Bool} {l : Rows} (hl : l.length ≤ 1000000) (ha : ∀ x ∈ l, (Row.R x 5).length ≤ 1900000) (hn : 2000000 < n) : ∃ b', z79_v n b0 l = some ((b', l.map ownR), ()) := by
 rw [z79_e]
 exact own_l hl ha l.length 0 (by omega) n true [] (by omega) rfl
end Go.Den
