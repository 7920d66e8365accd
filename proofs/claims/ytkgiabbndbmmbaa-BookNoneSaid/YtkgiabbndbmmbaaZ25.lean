import Derived.Test.YtkgiabbndbmmbaaZ24
set_option linter.unusedVariables false
set_option linter.unusedSimpArgs false
set_option linter.unusedSectionVars false
namespace Go.Den
inductive Fnd (L : List KD) (B : List KF) : KF → Prop
  | base (f : KF) : InK B f → Fnd L B f
  | step (d : KD) (f : KF) : d ∈ L → ordK d.2.1 f = 0 → (∀ g ∈ d.2.2, Fnd L B g) → Fnd L B f
theorem Fnd.congr {L : List KD} {B : List KF} {f g : KF} (h : Fnd L B f) (e : ordK f g = 0) : Fnd L B g := by
  cases h with
  | base _ h => exact .base g ((inK_congr e).1 h)
  | step d _ h1 h2 h3 => exact .step d g h1 (ordK_eq h2 e) h3
def okD (o : List KF) (d : KD) : Bool := !isO ordK d.2.1 o && d.2.2.all fun g => isO ordK g o
def pass : List KD → List KF → List KF
  | [], o => o
  | d :: l, o => pass l (bif okD o d then insO ordK d.2.1 o else o)
def grew : List KD → List KF → Bool → Bool
  | [], _, m => m
  | d :: l, o, m => grew l (bif okD o d then insO ordK d.2.1 o else o) (bif okD o d then true else m)
def outN (L : List KD) (o : List KF) : Nat := L.countP fun d => !isO ordK d.2.1 o
theorem countP_lt {α : Type} {p q : α → Bool} : ∀ {l : List α}, (∀ d ∈ l, p d = true → q d = true) → (∃ d ∈ l, q d = true ∧ p d = false) → l.countP p + 1 ≤ l.countP q
  | [], _, ⟨_, h, _⟩ => by cases h
  | x :: l, h, ⟨d, hd, h1, h2⟩ => by
    have hmono : l.countP p ≤ l.countP q := List.countP_mono_left fun d hd h3 => h d (List.mem_cons_of_mem _ hd) h3
    rw [List.countP_cons, List.countP_cons]
    rcases List.mem_cons.1 hd with rfl | hd
    · simp only [h1, h2, if_true]
      simp only [Bool.false_eq_true, if_false]; omega
    · have ih := countP_lt (l := l) (fun d hd h3 => h d (List.mem_cons_of_mem _ hd) h3) ⟨d, hd, h1, h2⟩
      have h0 := h x List.mem_cons_self
      cases hp : p x with
      | true => rw [h0 hp]; simp only [if_true]; omega
      | false => cases q x <;> simp only [if_true, if_false, Bool.false_eq_true] <;> omega
theorem isO_mono {o o' : List KF} (ha : Asc ordK o) (ha' : Asc ordK o') (h : ∀ f, InO ordK o f → InO ordK o' f) (f : KF) : isO ordK f o = true → isO ordK f o' = true := fun h1 =>
  (isO_in ordK_ord ha').2 (h f ((isO_in ordK_ord ha).1 h1))
structure Good (L : List KD) (B : List KF) (C : Nat) (o : List KF) : Prop where
  asc : Asc ordK o
  base : ∀ f, InK B f → InK o f
  fnd : ∀ f, InK o f → Fnd L B f
  small : ∀ k ∈ o, SmallK k
  len : o.length + outN L o ≤ C
theorem okD_true {o : List KF} {d : KD} (h : okD o d = true) : isO ordK d.2.1 o = false ∧ ∀ g ∈ d.2.2, isO ordK g o = true := by
  unfold okD at h
  rw [Bool.and_eq_true, Bool.not_eq_true', List.all_eq_true] at h
  exact h
theorem Good.ins {L : List KD} {B : List KF} {C : Nat} {o : List KF} (h : Good L B C o) {d : KD} (hd : d ∈ L) (hs : SmallK d.2.1) (hok : okD o d = true) : Good L B C (insO ordK d.2.1 o) ∧ (insO ordK d.2.1 o).length = o.length + 1 := by
  obtain ⟨h1, h2⟩ := okD_true hok
  have hl : (insO ordK d.2.1 o).length = o.length + 1 := by
    rw [insO_eq, h1, cond_false]
    have := cntO_le (c := ordK) d.2.1 o
    simp only [List.length_append, List.length_take, List.length_drop, List.length_cons, List.length_nil]; omega
  have ha := insO_asc ordK_ord (f := d.2.1) h.asc
  have hsub : ∀ f, InO ordK o f → InO ordK (insO ordK d.2.1 o) f := fun f hf => (insO_in ordK_ord f).2 (.inr hf)
  refine ⟨⟨ha, fun f hf => hsub f (h.base f hf), fun f hf => ?_, fun k hk => ?_, ?_⟩, hl⟩
  · rcases (insO_in ordK_ord f).1 hf with h3 | h3
    · exact .step d f hd h3 fun g hg => h.fnd g ((isO_in ordK_ord h.asc).1 (h2 g hg))
    · exact h.fnd f h3
  · rcases insO_mem hk with rfl | hk
    · exact hs
    · exact h.small k hk
  · have : outN L (insO ordK d.2.1 o) + 1 ≤ outN L o := by
      refine countP_lt (fun x _ hx => ?_) ⟨d, hd, by rw [h1]; rfl, ?_⟩
      · cases hc : isO ordK x.2.1 o with
        | false => rfl
        | true => rw [isO_mono h.asc ha hsub x.2.1 hc] at hx; cases hx
      · have : isO ordK d.2.1 (insO ordK d.2.1 o) = true := (isO_in ordK_ord ha).2 ((insO_in ordK_ord d.2.1).2 (.inl (ordK_self d.2.1)))
        rw [this]; rfl
    have := h.len
    omega
theorem pass_good {L : List KD} {B : List KF} {C : Nat} (hs : ∀ d ∈ L, SmallK d.2.1) : ∀ {l : List KD} {o : List KF}, Good L B C o → (∀ d ∈ l, d ∈ L) → Good L B C (pass l o) ∧ o.length ≤ (pass l o).length ∧ (grew l o false = true → o.length + 1 ≤ (pass l o).length) ∧ (grew l o false = false → pass l o = o ∧ ∀ d ∈ l, okD o d = false) := by
  have hg : ∀ (l : List KD) (o : List KF), grew l o true = true := by
    intro l
    induction l with
    | nil => intro o; rfl
    | cons d l ih => intro o; unfold grew; cases okD o d <;> exact ih _
  intro l
  induction l with
  | nil => intro o h _; exact ⟨h, Nat.le_refl _, (fun h => by cases h), fun _ => ⟨rfl, fun d hd => by cases hd⟩⟩
  | cons d l ih =>
    intro o h hl
    unfold pass grew
    cases hok : okD o d with
    | true =>
      obtain ⟨h1, h2⟩ := h.ins (hl d List.mem_cons_self) (hs d (hl d List.mem_cons_self)) hok
      obtain ⟨a1, a2, _, _⟩ := ih h1 (fun d hd => hl d (List.mem_cons_of_mem _ hd))
      simp only [cond_true]
      exact ⟨a1, by omega, fun _ => by omega, fun h => by rw [hg] at h; cases h⟩
    | false =>
      obtain ⟨a1, a2, a3, a4⟩ := ih h (fun d hd => hl d (List.mem_cons_of_mem _ hd))
      simp only [cond_false]
      refine ⟨a1, a2, a3, fun h => ?_⟩
      obtain ⟨b1, b2⟩ := a4 h
      exact ⟨b1, fun x hx => by rcases List.mem_cons.1 hx with rfl | hx; · exact hok
                                · exact b2 x hx⟩
theorem Good.closed {L : List KD} {B : List KF} {C : Nat} {o : List KF} (h : Good L B C o) (hc : ∀ d ∈ L, okD o d = false) (f : KF) : Fnd L B f ↔ InK o f := by
  refine ⟨fun hf => ?_, h.fnd f⟩
  induction hf with
  | base f hf => exact h.base f hf
  | step d f hd he _ ih =>
    have h1 := hc d hd
    unfold okD at h1
    have h2 : (d.2.2.all fun g => isO ordK g o) = true := by
      rw [List.all_eq_true]
      exact fun g hg => (isO_in ordK_ord h.asc).2 (ih g hg)
    rw [h2, Bool.and_true] at h1
    have h3 : isO ordK d.2.1 o = true := by simpa using h1
    exact (inK_congr he).1 ((isO_in ordK_ord h.asc).1 h3)
theorem Good.first {L : List KD} {B o : List KF} (hs : Strict o) (hi : ∀ f, InK o f ↔ InK B f) (hk : ∀ k ∈ o, SmallK k) : Good L B (o.length + L.length) o :=
  ⟨hs, fun f hf => (hi f).2 hf, fun f hf => .base f ((hi f).1 hf), hk, Nat.add_le_add_left List.countP_le_length _⟩
end Go.Den
