import Derived.Test.YtbdjanjcphgjdaaGreatDoorZ18
import Derived.Test.YtbdjanjcphgjdaaGreatDoorZ19
set_option linter.unusedVariables false
set_option linter.unusedSimpArgs false
set_option linter.unusedSectionVars false
namespace Go.Den
open Go.Proofs
theorem refArgs_data : ∀ (a b : Rows) (q : Nat) (acc : ByteArray), tms a = tms b → refArgs q a acc = refArgs q b acc
 |[], [], _, _, _ => rfl
 |[], _ :: _, _, _, h => by cases h
 |_ :: _, [], _, _, h => by cases h
 |r :: a, s :: b, q, acc, h => by
  have h' : tmAt r 0 :: tms a = tmAt s 0 :: tms b := h
  simp only [List.cons.injEq] at h'
  unfold refArgs
  rw [h'.1]
  split
  ·exact refArgs_data a b (q + 1) _ h'.2
  ·rfl
theorem atomR_data {p : ByteArray} {a b : Rows} (h : tms a = tms b) : atomR p a = atomR p b := by
 unfold atomR
 have hl : a.length = b.length := by rw [← tms_len, ← tms_len b, h]
 rw [hl, refArgs_data a b 0 _ h]
theorem litR_data {a b : Row} (h : litD a = litD b) : litR a = litR b := by
 unfold litD at h
 simp only [Prod.mk.injEq] at h
 unfold litR
 rw [h.1, h.2.1, h.2.2.2, atomR_data h.2.2.1]
theorem bodyR_data : ∀ (a b : Rows) (q : Nat) (acc : ByteArray), a.map litD = b.map litD → bodyR q a acc = bodyR q b acc
 |[], [], _, _, _ => rfl
 |[], _ :: _, _, _, h => by cases h
 |_ :: _, [], _, _, h => by cases h
 |r :: a, s :: b, q, acc, h => by
  simp only [List.map_cons, List.cons.injEq] at h
  unfold bodyR
  rw [litR_data h.1]
  split
  ·exact bodyR_data a b (q + 1) _ h.2
  ·rfl
theorem ruleR_data {a b : Row} (h : ruleD a = ruleD b) : ruleR a = ruleR b := by
 unfold ruleD at h
 simp only [Prod.mk.injEq] at h
 unfold ruleR headR
 have hl : (Row.R a 10).length = (Row.R b 10).length := by have := congrArg List.length h.2.2.2.2; simpa using this
 rw [h.1, h.2.1, h.2.2.2.1, atomR_data h.2.2.1, hl]
 split <;> rename_i heq <;> simp only [bodyR_data _ _ 0 _ h.2.2.2.2]
theorem TmOk.args {n : Nat} : ∀ {a b : Rows}, tms a = tms b → (∀ r ∈ a, TmOk n (tmAt r 0)) → ∀ r ∈ b, TmOk n (tmAt r 0) := by
 intro a b h ha r hr
 have : tmAt r 0 ∈ tms b := List.mem_map.2 ⟨r, hr, rfl⟩
 rw [← h] at this
 obtain ⟨s, hs, e⟩ := List.mem_map.1 this
 have := ha s hs
 rwa [e] at this
theorem LitOk.data {n : Nat} {a b : Row} (h : litD a = litD b) (ha : LitOk n a) : LitOk n b := by
 unfold litD at h
 simp only [Prod.mk.injEq] at h
 have hl : (Row.R a 5).length = (Row.R b 5).length := by rw [← tms_len, ← tms_len (Row.R b 5), h.2.2.1]
 exact ⟨h.1 ▸ ha.by_, h.2.1 ▸ ha.pred, hl ▸ ha.len, TmOk.args h.2.2.1 ha.args, h.2.2.2 ▸ ha.at_⟩
theorem RuleOk.data {n : Nat} {a b : Row} (h : ruleD a = ruleD b) (ha : RuleOk n a) : RuleOk n b := by
 unfold ruleD at h
 simp only [Prod.mk.injEq] at h
 have hl : (Row.R a 5).length = (Row.R b 5).length := by rw [← tms_len, ← tms_len (Row.R b 5), h.2.2.1]
 have hl2 : (Row.R a 10).length = (Row.R b 10).length := by have := congrArg List.length h.2.2.2.2; simpa using this
 refine ⟨h.1 ▸ ha.home, h.2.1 ▸ ha.pred, hl ▸ ha.len, TmOk.args h.2.2.1 ha.args, h.2.2.2.1 ▸ ha.to_, hl2 ▸ ha.blen, fun l hl => ?_⟩
 have : litD l ∈ (Row.R b 10).map litD := List.mem_map.2 ⟨l, hl, rfl⟩
 rw [← h.2.2.2.2] at this
 obtain ⟨s, hs, e⟩ := List.mem_map.1 this
 exact LitOk.data e (ha.body s hs)
theorem RulesOk.data {n : Nat} {a b : Rows} (h : a.map ruleD = b.map ruleD) (ha : ∀ r ∈ a, RuleOk n r) : ∀ r ∈ b, RuleOk n r := by
 intro l hl
 have : ruleD l ∈ b.map ruleD := List.mem_map.2 ⟨l, hl, rfl⟩
 rw [← h] at this
 obtain ⟨s, hs, e⟩ := List.mem_map.1 this
 exact RuleOk.data e (ha s hs)
def copyLit (l : Row) : Row := spliceD l 5 [.sl (false && List.isEmpty (Row.R l 5)) kT (appX [] (Row.R l 5))]
def copyRule (r : Row) : Row := [.val (.string (Row.S r 0)), .val (.bool (Row.B r 1)), .val (.int .i64 (Row.I r 2)), .val (.string (Row.S r 3)), .val (.string (Row.S r 4)), .sl (false && List.isEmpty (Row.R r 5)) kT (appX [] (Row.R r 5)),
 .val (.string (Row.S r 6)), .val (.bool (Row.B r 7)), .val (.int .i64 (Row.I r 8)), .val (.string (Row.S r 9)), .sl false kL ((Row.R r 10).map copyLit)]
theorem at_splice {l : Row} {d : DV} (h : 5 < l.length) (j : Nat) : Row.at (spliceD l 5 [d]) j = if j = 5 then d else Row.at l j := by
 unfold Row.at spliceD
 simp only [List.getD_eq_getElem?_getD]
 have hl : (l.take 5).length = 5 := by rw [List.length_take]; omega
 by_cases h5 : j = 5
 ·subst h5
  rw [if_pos rfl, List.append_assoc, List.getElem?_append_right (by omega), hl]; rfl
 ·rw [if_neg h5]
  by_cases hj : j < 5
  ·rw [List.append_assoc, List.getElem?_append_left (by omega), List.getElem?_take_of_lt hj]
  ·rw [List.getElem?_append_right (by simp; omega), List.getElem?_drop]
   congr 2
   simp only [List.length_append, hl, List.length_cons, List.length_nil]; omega
theorem copyLit_D {l : Row} (h : 5 < l.length) : litD (copyLit l) = litD l := by
 have e := fun j => at_splice (d := DV.sl (false && List.isEmpty (Row.R l 5)) kT (appX [] (Row.R l 5))) h j
 have e5 : Row.R (copyLit l) 5 = Row.R l 5 := by
  show (Row.at (copyLit l) 5).toRows = _
  unfold copyLit
  rw [e, if_pos rfl]
  show appX [] (Row.R l 5) = _
  simp [appX]
 unfold litD tmAt
 rw [e5]
 unfold Row.S Row.B Row.I copyLit
 simp only [e]
 rfl
theorem copyRule_D {r : Row} (h : ∀ l ∈ Row.R r 10, 5 < l.length) : ruleD (copyRule r) = ruleD r := by
 have e10 : (Row.R (copyRule r) 10).map litD = (Row.R r 10).map litD := by
  show ((Row.R r 10).map copyLit).map litD = _
  rw [List.map_map]
  exact List.map_congr_left fun l hl => copyLit_D (h l hl)
 have e5 : tms (Row.R (copyRule r) 5) = tms (Row.R r 5) := by
  show tms (appX [] (Row.R r 5)) = _
  simp [appX]
 unfold ruleD
 rw [e10, e5]
 rfl
structure CopyOk (n : Nat) (r : Row) : Prop where
 a : (Row.R r 5).length ≤ 1000
 b : (Row.R r 10).length ≤ 1000
 ba : ∀ l ∈ Row.R r 10, (Row.R l 5).length ≤ 1000
 bl : ∀ l ∈ Row.R r 10, 5 < l.length
theorem copy_D {r1 : Rows} (h : ∀ r ∈ r1, ∀ l ∈ Row.R r 10, 5 < l.length) : (r1.map copyRule).map ruleD = r1.map ruleD := by
 rw [List.map_map]
 exact List.map_congr_left fun r hr => copyRule_D (h r hr)
end Go.Den
