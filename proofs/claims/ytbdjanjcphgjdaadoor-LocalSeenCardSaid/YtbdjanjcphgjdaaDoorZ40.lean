import Derived.Test.YtbdjanjcphgjdaaDoorZ33
set_option linter.unusedVariables false
set_option linter.unusedSimpArgs false
set_option linter.unusedSectionVars false
namespace Go.Den
abbrev Cn := Bool × Int × ByteArray
def cnAt (r : Row) : Cn := (Row.B r 0, Row.I r 1, Row.S r 2)
def sameC (c d : Cn) : Bool := c.1 == d.1 && (c.2.1 == d.2.1 && (c.2.2 == d.2.2 && true))
theorem sameC_eq {c d : Cn} : sameC c d = true ↔ c = d := by
  obtain ⟨a, b, s⟩ := c
  obtain ⟨a', b', s'⟩ := d
  unfold sameC
  simp only [Bool.and_true, Bool.and_eq_true, beq_iff_eq, Prod.mk.injEq]
def less (a b : ByteArray) : Bool := Op.bytesLess (ByteArray.toList a) (ByteArray.toList b)
theorem bytesLess_irrefl : ∀ l : List UInt8, Op.bytesLess l l = false
  | [] => by simp [Op.bytesLess]
  | a :: l => by
    have := bytesLess_irrefl l
    simp [Op.bytesLess, this]
theorem less_irrefl (a : ByteArray) : less a a = false := bytesLess_irrefl _
def texts (a b : ByteArray) : Int := bif less a b then -1 else bif !(less a b || a == b) then 1 else 0
theorem texts_zero {a b : ByteArray} : texts a b = 0 ↔ a = b := by
  unfold texts
  constructor
  · intro h
    cases hl : less a b with
    | true => rw [hl] at h; cases h
    | false =>
      rw [hl] at h
      cases he : a == b with
      | true => exact eq_of_beq he
      | false => rw [he] at h; cases h
  · rintro rfl
    rw [less_irrefl]; simp
def cmpC (a b : Cn) : Int :=
  bif a.1 && !b.1 then -1 else bif b.1 && !a.1 then 1 else bif decide (a.2.1 < b.2.1) then -1 else bif decide (a.2.1 > b.2.1) then 1 else texts a.2.2 b.2.2
theorem cmpC_zero {a b : Cn} : cmpC a b = 0 ↔ a = b := by
  obtain ⟨x, y, s⟩ := a
  obtain ⟨x', y', s'⟩ := b
  unfold cmpC
  constructor
  · intro h
    simp only at h
    cases x <;> cases x' <;> simp only [Bool.not_true, Bool.not_false, Bool.and_true, Bool.and_false, Bool.true_and, Bool.false_and, cond_true, cond_false] at h
    all_goals first
      | (by_cases h1 : y < y'
         · simp only [h1, decide_true, cond_true] at h; cases h
         · by_cases h2 : y > y'
           · simp only [h1, h2, decide_true, decide_false, cond_true, cond_false] at h; cases h
           · simp only [h1, h2, decide_false, cond_false] at h
             have := texts_zero.1 h
             have : y = y' := by omega
             simp_all)
      | cases h
  · intro h
    cases h
    have h1 : ¬ y < y := by omega
    have h2 : ¬ y > y := by omega
    simp only [h1, h2, decide_false, cond_false]
    cases x <;> simp only [Bool.not_true, Bool.not_false, Bool.and_true, Bool.and_false, Bool.true_and, Bool.false_and, cond_false] <;> exact texts_zero.2 rfl
def ordA : Rows → Rows → Int
  | [], [] => 0
  | [], _ :: _ => -1
  | _ :: _, [] => 1
  | x :: l, y :: m => bif cmpC (cnAt x) (cnAt y) != 0 then cmpC (cnAt x) (cnAt y) else ordA l m
theorem ordA_zero : ∀ {a b : Rows}, ordA a b = 0 ↔ a.map cnAt = b.map cnAt
  | [], [] => by simp [ordA]
  | [], _ :: _ => by simp [ordA]
  | _ :: _, [] => by simp [ordA]
  | x :: l, y :: m => by
    unfold ordA
    by_cases h : cmpC (cnAt x) (cnAt y) = 0
    · have he := cmpC_zero.1 h
      have hb : (cmpC (cnAt x) (cnAt y) != 0) = false := by simp [h]
      rw [hb, cond_false, ordA_zero]
      simp [he]
    · have hb : (cmpC (cnAt x) (cnAt y) != 0) = true := by simpa using h
      rw [hb, cond_true]
      constructor
      · intro h'; exact absurd h' h
      · intro h'
        simp only [List.map_cons, List.cons.injEq] at h'
        exact absurd (cmpC_zero.2 h'.1) h
abbrev Fc := ByteArray × ByteArray × ByteArray × Rows
def ordF (f g : Fc) : Int := bif !(f.1 == g.1) then texts f.1 g.1 else bif !(f.2.1 == g.2.1) then texts f.2.1 g.2.1 else bif !(f.2.2.1 == g.2.2.1) then texts f.2.2.1 g.2.2.1 else ordA f.2.2.2 g.2.2.2
def sameF (f g : Fc) : Prop := f.1 = g.1 ∧ f.2.1 = g.2.1 ∧ f.2.2.1 = g.2.2.1 ∧ f.2.2.2.map cnAt = g.2.2.2.map cnAt
theorem ordF_zero {f g : Fc} : ordF f g = 0 ↔ sameF f g := by
  obtain ⟨a, b, c, d⟩ := f
  obtain ⟨a', b', c', d'⟩ := g
  unfold ordF sameF
  simp only
  by_cases h1 : a = a'
  · subst h1
    simp only [beq_self_eq_true, Bool.not_true, cond_false, true_and]
    by_cases h2 : b = b'
    · subst h2
      simp only [beq_self_eq_true, Bool.not_true, cond_false, true_and]
      by_cases h3 : c = c'
      · subst h3
        simp only [beq_self_eq_true, Bool.not_true, cond_false, true_and]
        exact ordA_zero
      · have hb : (c == c') = false := by simpa using h3
        simp only [hb, Bool.not_false, cond_true, h3, false_and, iff_false]
        exact fun h => h3 (texts_zero.1 h)
    · have hb : (b == b') = false := by simpa using h2
      simp only [hb, Bool.not_false, cond_true, h2, false_and, iff_false]
      exact fun h => h2 (texts_zero.1 h)
  · have hb : (a == a') = false := by simpa using h1
    simp only [hb, Bool.not_false, cond_true, h1, false_and, iff_false]
    exact fun h => h1 (texts_zero.1 h)
theorem ordF_refl (f : Fc) : ordF f f = 0 := ordF_zero.2 ⟨rfl, rfl, rfl, rfl⟩
def fcAt (r : Row) : Fc := (Row.S r 0, Row.S r 1, Row.S r 2, Row.R r 3)
def likeF : Rows → Rows → Bool
  | [], [] => true
  | a :: l, b :: m => bif ordF (fcAt a) (fcAt b) != 0 then false else likeF l m
  | _, _ => false
theorem likeF_refl : ∀ a : Rows, likeF a a = true
  | [] => rfl
  | r :: l => by simp [likeF, ordF_refl, likeF_refl l]
theorem likeF_len : ∀ {a b : Rows}, likeF a b = true → a.length = b.length
  | [], [], _ => rfl
  | a :: l, b :: m, h => by
    unfold likeF at h
    cases hc : ordF (fcAt a) (fcAt b) != 0 with
    | true => rw [hc] at h; cases h
    | false => rw [hc] at h; simp [likeF_len h]
  | [], _ :: _, h => by simp [likeF] at h
  | _ :: _, [], h => by simp [likeF] at h
end Go.Den
