import Derived.Test.YtcpbnfnfmfaogaaO1
import Derived.Sort.Statements
import Derived.Shelf.SlSortCmp.Insertion
set_option linter.unusedVariables false
set_option linter.unusedSimpArgs false
set_option linter.unusedSectionVars false
/- The order of facts is one: told backwards it is the negative, and below goes on. -/
namespace Go.Den
open Go.Sort
structure IsOrd {α : Type} (c : α → α → Int) : Prop where
  anti : ∀ a b, c a b = - c b a
  trans : ∀ a b d, c a b ≤ 0 → c b d ≤ 0 → c a d ≤ 0
theorem IsOrd.self {α : Type} {c : α → α → Int} (h : IsOrd c) (a : α) : c a a = 0 := by have := h.anti a a; omega
theorem IsOrd.zero {α : Type} {c : α → α → Int} (h : IsOrd c) {a b d : α} (h1 : c a b ≤ 0) (h2 : c b d ≤ 0) (h3 : c a d = 0) : c a b = 0 ∧ c b d = 0 := by
  have k3 : c d a ≤ 0 := by have := h.anti a d; omega
  have k1 := h.trans d a b k3 h1
  have k2 := h.trans b d a h2 k3
  have := h.anti a b
  have := h.anti b d
  omega
theorem IsOrd.comap {α β : Type} {c : α → α → Int} (h : IsOrd c) (f : β → α) : IsOrd (fun x y => c (f x) (f y)) := ⟨fun _ _ => h.anti _ _, fun _ _ _ => h.trans _ _ _⟩
theorem IsOrd.lex {α : Type} {c d : α → α → Int} (h : IsOrd c) (k : IsOrd d) : IsOrd (fun x y => if c x y = 0 then d x y else c x y) where
  anti a b := by
    have h1 := h.anti a b
    have h2 := k.anti a b
    split <;> split <;> omega
  trans a b e h1 h2 := by
    have k1 : c a b ≤ 0 := by split at h1 <;> omega
    have k2 : c b e ≤ 0 := by split at h2 <;> omega
    have k3 := h.trans a b e k1 k2
    split
    · rename_i h3
      obtain ⟨z1, z2⟩ := h.zero k1 k2 h3
      rw [if_pos z1] at h1
      rw [if_pos z2] at h2
      exact k.trans a b e h1 h2
    · exact k3
theorem IsOrd.swo {α : Type} {c : α → α → Int} (h : IsOrd c) : SWO (Go.Proofs.ltOf c) where
  irrefl x := by
    unfold Go.Proofs.ltOf
    have := h.self x
    exact decide_eq_false (by omega)
  trans x y z h1 h2 := by
    unfold Go.Proofs.ltOf at h1 h2 ⊢
    have h1 := of_decide_eq_true h1
    have h2 := of_decide_eq_true h2
    have h3 := h.trans x y z (by omega) (by omega)
    refine decide_eq_true ?_
    by_cases h4 : c x z = 0
    · have := h.zero (a := x) (b := y) (d := z) (by omega) (by omega) h4; omega
    · omega
  ntrans x y z h1 h2 := by
    unfold Go.Proofs.ltOf at h1 h2 ⊢
    have h1 := of_decide_eq_false h1
    have h2 := of_decide_eq_false h2
    have a1 := h.anti x y
    have a2 := h.anti y z
    have a3 := h.anti x z
    have := h.trans z y x (by omega) (by omega)
    exact decide_eq_false (by omega)
/-! texts -/
theorem bytesLess_asymm : ∀ {a b : List UInt8}, Op.bytesLess a b = true → Op.bytesLess b a = false
  | [], [], h => by simp [Op.bytesLess] at h
  | [], _ :: _, _ => by simp [Op.bytesLess]
  | _ :: _, [], h => by simp [Op.bytesLess] at h
  | x :: a, y :: b, h => by
    rw [Op.bytesLess] at h ⊢
    simp only [Bool.or_eq_true, Bool.and_eq_true, decide_eq_true_eq, beq_iff_eq] at h
    simp only [Bool.or_eq_false_iff, Bool.and_eq_false_iff, decide_eq_false_iff_not, beq_eq_false_iff_ne]
    rcases h with h | ⟨rfl, h⟩
    · exact ⟨by simp only [UInt8.lt_iff_toNat_lt] at *; omega, .inl (fun e => by subst e; simp only [UInt8.lt_iff_toNat_lt] at *; omega)⟩
    · exact ⟨by simp only [UInt8.lt_iff_toNat_lt] at *; omega, .inr (bytesLess_asymm h)⟩
theorem bytesLess_total : ∀ {a b : List UInt8}, Op.bytesLess a b = false → Op.bytesLess b a = false → a = b
  | [], [], _, _ => rfl
  | [], _ :: _, h, _ => by simp [Op.bytesLess] at h
  | _ :: _, [], _, h => by simp [Op.bytesLess] at h
  | x :: a, y :: b, h, k => by
    rw [Op.bytesLess] at h k
    simp only [Bool.or_eq_false_iff, Bool.and_eq_false_iff, decide_eq_false_iff_not, beq_eq_false_iff_ne] at h k
    have e : x = y := by
      have h1 := h.1
      have k1 := k.1
      simp only [UInt8.lt_iff_toNat_lt] at h1 k1
      exact UInt8.toNat_inj.1 (by omega)
    subst e
    rcases h.2 with h2 | h2
    · exact absurd rfl h2
    · rcases k.2 with k2 | k2
      · exact absurd rfl k2
      · rw [bytesLess_total h2 k2]
theorem bytesLess_trans : ∀ {a b c : List UInt8}, Op.bytesLess a b = true → Op.bytesLess b c = true → Op.bytesLess a c = true
  | [], [], _, h, _ => by simp [Op.bytesLess] at h
  | [], _ :: _, [], _, h => by simp [Op.bytesLess] at h
  | [], _ :: _, _ :: _, _, _ => by simp [Op.bytesLess]
  | _ :: _, [], _, h, _ => by simp [Op.bytesLess] at h
  | _ :: _, _ :: _, [], _, h => by simp [Op.bytesLess] at h
  | x :: a, y :: b, z :: c, h, k => by
    rw [Op.bytesLess] at h k ⊢
    simp only [Bool.or_eq_true, Bool.and_eq_true, decide_eq_true_eq, beq_iff_eq] at h k ⊢
    rcases h with h | ⟨rfl, h⟩
    · rcases k with k | ⟨rfl, k⟩
      · exact .inl (by simp only [UInt8.lt_iff_toNat_lt] at *; omega)
      · exact .inl h
    · rcases k with k | ⟨rfl, k⟩
      · exact .inl k
      · exact .inr ⟨rfl, bytesLess_trans h k⟩
theorem bytes_inj {a b : ByteArray} (h : ByteArray.toList a = ByteArray.toList b) : a = b := by
  have := congrArg List.toArray h
  rw [Go.Lib.toList_data, Go.Lib.toList_data] at this
  cases a; cases b
  simpa using this
theorem less_total {a b : ByteArray} (h : less a b = false) (k : less b a = false) : a = b := bytes_inj (bytesLess_total h k)
theorem texts_lt {a b : ByteArray} (h : less a b = true) : texts a b = -1 := by unfold texts; rw [h]; rfl
theorem texts_gt {a b : ByteArray} (h : less b a = true) : texts a b = 1 := by
  have h1 : less a b = false := bytesLess_asymm h
  have h2 : (a == b) = false := by
    cases he : a == b with
    | false => rfl
    | true =>
      have := eq_of_beq he
      subst this
      rw [less_irrefl] at h; cases h
  unfold texts; rw [h1, h2]; rfl
theorem texts_cases (a b : ByteArray) : (less a b = true ∧ texts a b = -1 ∧ texts b a = 1) ∨ (less b a = true ∧ texts a b = 1 ∧ texts b a = -1) ∨ (a = b ∧ texts a b = 0 ∧ texts b a = 0) := by
  cases h1 : less a b with
  | true => exact .inl ⟨rfl, texts_lt h1, texts_gt h1⟩
  | false =>
    cases h2 : less b a with
    | true => exact .inr (.inl ⟨rfl, texts_gt h2, texts_lt h2⟩)
    | false =>
      have := less_total h1 h2
      subst this
      exact .inr (.inr ⟨rfl, texts_zero.2 rfl, texts_zero.2 rfl⟩)
theorem texts_ord : IsOrd texts where
  anti a b := by rcases texts_cases a b with ⟨_, h, k⟩ | ⟨_, h, k⟩ | ⟨_, h, k⟩ <;> omega
  trans a b d h1 h2 := by
    rcases texts_cases a b with ⟨l1, h, _⟩ | ⟨_, h, _⟩ | ⟨e, _, _⟩
    · rcases texts_cases b d with ⟨l2, k, _⟩ | ⟨_, k, _⟩ | ⟨e, _, _⟩
      · have : less a d = true := bytesLess_trans l1 l2
        rw [texts_lt this]; omega
      · omega
      · subst e; omega
    · omega
    · subst e; exact h2
/-! constants -/
def boolC (a b : Bool) : Int := if a = b then 0 else if a then -1 else 1
theorem boolC_ord : IsOrd boolC := ⟨by decide, by decide⟩
def intC (a b : Int) : Int := if a < b then -1 else if b < a then 1 else 0
theorem intC_ord : IsOrd intC where
  anti a b := by unfold intC; split <;> split <;> first | omega | (split <;> omega)
  trans a b d := by unfold intC; intro h1 h2; split at h1 <;> split at h2 <;> split <;> first | omega | (split at h1 <;> first | omega | (split at h2 <;> first | omega | (split <;> omega))) | (split at h2 <;> first | omega | (split <;> omega)) | (split <;> omega)
theorem cmpC_eq (a b : Cn) : cmpC a b = if boolC a.1 b.1 = 0 then (if intC a.2.1 b.2.1 = 0 then texts a.2.2 b.2.2 else intC a.2.1 b.2.1) else boolC a.1 b.1 := by
  obtain ⟨x, i, s⟩ := a
  obtain ⟨y, j, t⟩ := b
  unfold cmpC boolC intC
  simp only
  cases x <;> cases y <;> simp
  all_goals
    by_cases h1 : i < j
    · simp [h1]
    · by_cases h2 : j < i <;> simp [h1, h2]
theorem cmpC_ord : IsOrd cmpC := by
  have h := ((boolC_ord.comap (fun c : Cn => c.1)).lex ((intC_ord.comap (fun c : Cn => c.2.1)).lex (texts_ord.comap (fun c : Cn => c.2.2))))
  have e : cmpC = fun a b => if boolC a.1 b.1 = 0 then (if intC a.2.1 b.2.1 = 0 then texts a.2.2 b.2.2 else intC a.2.1 b.2.1) else boolC a.1 b.1 := by funext a b; exact cmpC_eq a b
  rw [e]; exact h
/-! rows of constants, facts -/
theorem ordA_cons (x y : Row) (l m : Rows) : ordA (x :: l) (y :: m) = if cmpC (cnAt x) (cnAt y) = 0 then ordA l m else cmpC (cnAt x) (cnAt y) := by
  show (bif cmpC (cnAt x) (cnAt y) != 0 then cmpC (cnAt x) (cnAt y) else ordA l m) = _
  by_cases h : cmpC (cnAt x) (cnAt y) = 0
  · simp [h]
  · have : (cmpC (cnAt x) (cnAt y) != 0) = true := by simpa using h
    rw [this, if_neg h]; rfl
theorem ordA_anti : ∀ a b : Rows, ordA a b = - ordA b a
  | [], [] => rfl
  | [], _ :: _ => rfl
  | _ :: _, [] => rfl
  | x :: l, y :: m => by
    rw [ordA_cons, ordA_cons]
    have h1 := cmpC_ord.anti (cnAt x) (cnAt y)
    have h2 := ordA_anti l m
    split <;> split <;> omega
theorem ordA_trans : ∀ a b d : Rows, ordA a b ≤ 0 → ordA b d ≤ 0 → ordA a d ≤ 0
  | [], _, [], _, _ => by simp [ordA]
  | [], _, _ :: _, _, _ => by simp [ordA]
  | _ :: _, [], _, h, _ => by simp [ordA] at h
  | _ :: _, _ :: _, [], _, h => by simp [ordA] at h
  | x :: l, y :: m, z :: n, h, k => by
    rw [ordA_cons] at h k ⊢
    have k1 : cmpC (cnAt x) (cnAt y) ≤ 0 := by split at h <;> omega
    have k2 : cmpC (cnAt y) (cnAt z) ≤ 0 := by split at k <;> omega
    split
    · rename_i h3
      obtain ⟨z1, z2⟩ := cmpC_ord.zero k1 k2 h3
      rw [if_pos z1] at h
      rw [if_pos z2] at k
      exact ordA_trans l m n h k
    · exact cmpC_ord.trans _ _ _ k1 k2
theorem ordA_ord : IsOrd ordA := ⟨ordA_anti, ordA_trans⟩
theorem texts_bif (a b : ByteArray) (z : Int) : (bif !(a == b) then texts a b else z) = if texts a b = 0 then z else texts a b := by
  by_cases h : a = b
  · subst h; simp [texts_zero.2 rfl]
  · have h1 : (a == b) = false := by simpa using h
    have h2 : ¬ texts a b = 0 := fun e => h (texts_zero.1 e)
    rw [h1, if_neg h2]; rfl
theorem ordF_ord : IsOrd ordF := by
  have h := ((texts_ord.comap (fun f : Fc => f.1)).lex ((texts_ord.comap (fun f : Fc => f.2.1)).lex ((texts_ord.comap (fun f : Fc => f.2.2.1)).lex (ordA_ord.comap (fun f : Fc => f.2.2.2)))))
  have e : ordF = fun f g : Fc => if texts f.1 g.1 = 0 then (if texts f.2.1 g.2.1 = 0 then (if texts f.2.2.1 g.2.2.1 = 0 then ordA f.2.2.2 g.2.2.2 else texts f.2.2.1 g.2.2.1) else texts f.2.1 g.2.1) else texts f.1 g.1 := by
    funext f g
    unfold ordF
    rw [texts_bif, texts_bif, texts_bif]
  rw [e]; exact h
end Go.Den
