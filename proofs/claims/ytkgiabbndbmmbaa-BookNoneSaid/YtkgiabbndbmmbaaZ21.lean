import Derived.Test.YtkgiabbndbmmbaaZ20
set_option linter.unusedVariables false
set_option linter.unusedSimpArgs false
set_option linter.unusedSectionVars false
namespace Go.Den
section
variable {α : Type} {c : α → α → Int}
def Asc (c : α → α → Int) (l : List α) : Prop := l.Pairwise fun a b => c a b < 0
def InO (c : α → α → Int) (l : List α) (f : α) : Prop := ∃ k ∈ l, c k f = 0
def cntO (c : α → α → Int) (f : α) : List α → Nat
 |[] => 0
 |k :: l => bif decide (c k f < 0) then cntO c f l + 1 else 0
def isO (c : α → α → Int) (f : α) : List α → Bool
 |[] => false
 |k :: l => bif decide (c k f < 0) then isO c f l else c k f == 0
def insO (c : α → α → Int) (f : α) : List α → List α
 |[] => [f]
 |k :: l => bif decide (c k f < 0) then k :: insO c f l else bif c k f == 0 then k :: l else f :: k :: l
theorem cntO_le (f : α) : ∀ l, cntO c f l ≤ l.length
 |[] => Nat.le_refl _
 |k :: l => by
  unfold cntO
  have := cntO_le f l
  cases decide (c k f < 0) <;> simp only [cond_true, cond_false, List.length_cons] <;> omega
theorem insO_eq (f : α) : ∀ l, insO c f l = bif isO c f l then l else l.take (cntO c f l) ++ [f] ++ l.drop (cntO c f l)
 |[] => rfl
 |k :: l => by
  unfold insO isO cntO
  rw [insO_eq f l]
  cases decide (c k f < 0) with
  |true =>
   simp only [cond_true]
   cases isO c f l <;> simp
  |false =>
   simp only [cond_false]
   cases c k f == 0 <;> simp
theorem cnt_at {f : α} : ∀ {l : List α} {i : Nat}, i ≤ l.length → (∀ j (h : j < l.length), j < i → c l[j] f < 0) → (∀ j (h : j < l.length), i ≤ j → ¬ c l[j] f < 0) → cntO c f l = i ∧ isO c f l = (if h : i < l.length then c l[i] f == 0 else false)
 |[], i, h1, h2, h3 => by
  have : i = 0 := by simpa using h1
  subst this; simp [cntO, isO]
 |k :: l, 0, h1, h2, h3 => by
  have h := h3 0 (by simp) (Nat.le_refl _)
  simp only [List.getElem_cons_zero] at h
  simp [cntO, isO, h]
 |k :: l, i + 1, h1, h2, h3 => by
  have h := h2 0 (by simp) (by omega)
  simp only [List.getElem_cons_zero] at h
  obtain ⟨a, b⟩ := cnt_at (f := f) (l := l) (i := i) (by simpa using h1) (fun j hj hji => by have := h2 (j + 1) (by simpa using hj) (by omega); simpa using this) (fun j hj hji => by have := h3 (j + 1) (by simpa using hj) (by omega); simpa using this)
  unfold cntO isO
  rw [decide_eq_true h, cond_true, cond_true, a, b]
  refine ⟨rfl, ?_⟩
  by_cases hi : i < l.length
  ·rw [dif_pos hi, dif_pos (by simpa using hi)]; simp
  ·rw [dif_neg hi, dif_neg (by simpa using hi)]
theorem IsOrd.lt_le (h : IsOrd c) {a b d : α} (h1 : c a b < 0) (h2 : c b d ≤ 0) : c a d < 0 := by
 have h3 := h.trans a b d (by omega) h2
 by_cases h4 : c a d = 0
 ·have := h.zero (a := a) (b := b) (d := d) (by omega) h2 h4; omega
 ·omega
theorem IsOrd.sym (h : IsOrd c) {a b : α} (e : c a b = 0) : c b a = 0 := by have := h.anti a b; omega
theorem IsOrd.eqv (h : IsOrd c) {a b d : α} (h1 : c a b = 0) (h2 : c b d = 0) : c a d = 0 := by
 have h3 := h.trans a b d (by omega) (by omega)
 have h4 := h.trans d b a (by have := h.sym h2; omega) (by have := h.sym h1; omega)
 have := h.anti a d
 omega
theorem asc_lt (h : IsOrd c) {l : List α} (ha : Asc c l) {i j : Nat} (hi : i < l.length) (hj : j < l.length) (hij : i < j) : c l[i] l[j] < 0 := List.pairwise_iff_getElem.1 ha i j hi hj hij
theorem asc_below (h : IsOrd c) {l : List α} (ha : Asc c l) {f : α} {m : Nat} (hm : m < l.length) (hlt : c l[m] f < 0) {j : Nat} (hj : j < l.length) (hjm : j ≤ m) : c l[j] f < 0 := by
 rcases Nat.lt_or_ge j m with h1 | h1
 ·exact h.lt_le (asc_lt h ha hj hm h1) (by omega)
 ·have : j = m := by omega
  subst this; exact hlt
theorem asc_above (h : IsOrd c) {l : List α} (ha : Asc c l) {f : α} {m : Nat} (hm : m < l.length) (hlt : ¬ c l[m] f < 0) {j : Nat} (hj : j < l.length) (hjm : m ≤ j) : ¬ c l[j] f < 0 := by
 rcases Nat.lt_or_ge m j with h1 | h1
 ·intro h2
  exact hlt (h.lt_le (asc_lt h ha hm hj h1) (by omega))
 ·have : j = m := by omega
  subst this; exact hlt
theorem isO_in (h : IsOrd c) {f : α} : ∀ {l : List α}, Asc c l → (isO c f l = true ↔ InO c l f)
 |[], _ => by simp [isO, InO]
 |k :: l, ha => by
  unfold isO
  have h1 := List.pairwise_cons.1 ha
  by_cases hk : c k f < 0
  ·rw [decide_eq_true hk, cond_true, isO_in h h1.2]
   constructor
   ·rintro ⟨q, hq, e⟩; exact ⟨q, List.mem_cons_of_mem _ hq, e⟩
   ·rintro ⟨q, hq, e⟩
    rcases List.mem_cons.1 hq with rfl | hq
    ·omega
    ·exact ⟨q, hq, e⟩
  ·rw [decide_eq_false hk, cond_false]
   constructor
   ·intro e; exact ⟨k, List.mem_cons_self, by simpa using e⟩
   ·rintro ⟨q, hq, e⟩
    rcases List.mem_cons.1 hq with rfl | hq
    ·simpa using e
    ·exact absurd (h.lt_le (h1.1 q hq) (by omega)) hk
theorem insO_in (h : IsOrd c) {f : α} : ∀ {l : List α} (g : α), InO c (insO c f l) g ↔ (c f g = 0 ∨ InO c l g)
 |[], g => by simp [insO, InO]
 |k :: l, g => by
  have ih := insO_in h (f := f) (l := l) g
  unfold insO
  by_cases hk : c k f < 0
  ·rw [decide_eq_true hk, cond_true]
   constructor
   ·rintro ⟨q, hq, e⟩
    rcases List.mem_cons.1 hq with rfl | hq
    ·exact .inr ⟨q, List.mem_cons_self, e⟩
    ·rcases ih.1 ⟨q, hq, e⟩ with h1 | ⟨q', hq', e'⟩
     ·exact .inl h1
     ·exact .inr ⟨q', List.mem_cons_of_mem _ hq', e'⟩
   ·rintro (h1 | ⟨q, hq, e⟩)
    ·obtain ⟨q, hq, e⟩ := ih.2 (.inl h1); exact ⟨q, List.mem_cons_of_mem _ hq, e⟩
    ·rcases List.mem_cons.1 hq with rfl | hq
     ·exact ⟨q, List.mem_cons_self, e⟩
     ·obtain ⟨q', hq', e'⟩ := ih.2 (.inr ⟨q, hq, e⟩); exact ⟨q', List.mem_cons_of_mem _ hq', e'⟩
  ·rw [decide_eq_false hk, cond_false]
   by_cases he : c k f = 0
   ·have : (c k f == 0) = true := by simpa using he
    rw [this, cond_true]
    constructor
    ·exact fun h1 => .inr h1
    ·rintro (h1 | h1)
     ·exact ⟨k, List.mem_cons_self, h.eqv he h1⟩
     ·exact h1
   ·have : (c k f == 0) = false := by simpa using he
    rw [this, cond_false]
    constructor
    ·rintro ⟨q, hq, e⟩
     rcases List.mem_cons.1 hq with rfl | hq
     ·exact .inl e
     ·exact .inr ⟨q, hq, e⟩
    ·rintro (h1 | ⟨q, hq, e⟩)
     ·exact ⟨f, List.mem_cons_self, h1⟩
     ·exact ⟨q, List.mem_cons_of_mem _ hq, e⟩
theorem insO_mem {f : α} : ∀ {l : List α} {k : α}, k ∈ insO c f l → k = f ∨ k ∈ l
 |[], k, h => by simp [insO] at h; exact .inl h
 |x :: l, k, h => by
  unfold insO at h
  cases h1 : decide (c x f < 0) with
  |true =>
   rw [h1, cond_true] at h
   rcases List.mem_cons.1 h with rfl | h
   ·exact .inr List.mem_cons_self
   ·rcases insO_mem h with h | h
    ·exact .inl h
    ·exact .inr (List.mem_cons_of_mem _ h)
  |false =>
   rw [h1, cond_false] at h
   cases h2 : c x f == 0 with
   |true => rw [h2, cond_true] at h; exact .inr h
   |false =>
    rw [h2, cond_false] at h
    rcases List.mem_cons.1 h with rfl | h
    ·exact .inl rfl
    ·exact .inr h
theorem insO_asc (h : IsOrd c) {f : α} : ∀ {l : List α}, Asc c l → Asc c (insO c f l)
 |[], _ => by simp [insO, Asc]
 |k :: l, ha => by
  have h1 := List.pairwise_cons.1 ha
  unfold insO
  by_cases hk : c k f < 0
  ·rw [decide_eq_true hk, cond_true]
   refine List.pairwise_cons.2 ⟨fun q hq => ?_, insO_asc h h1.2⟩
   rcases insO_mem hq with rfl | hq
   ·exact hk
   ·exact h1.1 q hq
  ·rw [decide_eq_false hk, cond_false]
   cases he : c k f == 0 with
   |true => exact ha
   |false =>
    have he' : ¬ c k f = 0 := by simpa using he
    have hfk : c f k < 0 := by have := h.anti f k; omega
    refine List.pairwise_cons.2 ⟨fun q hq => ?_, ha⟩
    rcases List.mem_cons.1 hq with rfl | hq
    ·exact hfk
    ·exact h.lt_le hfk (by have := h1.1 q hq; omega)
end
abbrev KD := Int × KF × List KF
def dr (r : Row) : KD := (Row.I r 0, kf (Row.S r 1) (Row.S r 2) (Row.S r 3) (Row.N r 4) (Row.R r 4), (Row.R r 5).map kr)
end Go.Den
