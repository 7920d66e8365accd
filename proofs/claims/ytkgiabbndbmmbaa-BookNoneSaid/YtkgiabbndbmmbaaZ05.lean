import Derived.Test.YtkgiabbndbmmbaaZ03
import Derived.Sort.Statements
import Derived.Shelf.SlSortCmp.Insertion
import Derived.Shelf.SlSortCmp.NoneTotal
set_option linter.unusedVariables false
set_option linter.unusedSimpArgs false
set_option linter.unusedSectionVars false
namespace Go.Den
abbrev Cn := Bool × Int × ByteArray
def cnAt (r : Row) : Cn := (Row.B r 0, Row.I r 1, Row.S r 2)
def less (a b : ByteArray) : Bool := Op.bytesLess (ByteArray.toList a) (ByteArray.toList b)
theorem bytesLess_irrefl : ∀ l : List UInt8, Op.bytesLess l l = false
 |[] => by simp [Op.bytesLess]
 |a :: l => by
  have := bytesLess_irrefl l
  simp [Op.bytesLess, this]
theorem less_irrefl (a : ByteArray) : less a a = false := bytesLess_irrefl _
def texts (a b : ByteArray) : Int := bif less a b then -1 else bif !(less a b || a == b) then 1 else 0
theorem texts_zero {a b : ByteArray} : texts a b = 0 ↔ a = b := by
 unfold texts
 constructor
 ·intro h
  cases hl : less a b with
  |true => rw [hl] at h; cases h
  |false =>
   rw [hl] at h
   cases he : a == b with
   |true => exact eq_of_beq he
   |false => rw [he] at h; cases h
 ·rintro rfl
  rw [less_irrefl]; simp
def cmpC (a b : Cn) : Int :=
 bif a.1 && !b.1 then -1 else bif b.1 && !a.1 then 1 else bif decide (a.2.1 < b.2.1) then -1 else bif decide (a.2.1 > b.2.1) then 1 else texts a.2.2 b.2.2
def ordA : Rows → Rows → Int
 |[], [] => 0
 |[], _ :: _ => -1
 |_ :: _, [] => 1
 |x :: l, y :: m => bif cmpC (cnAt x) (cnAt y) != 0 then cmpC (cnAt x) (cnAt y) else ordA l m
abbrev Fc := ByteArray × ByteArray × ByteArray × Rows
def ordF (f g : Fc) : Int := bif !(f.1 == g.1) then texts f.1 g.1 else bif !(f.2.1 == g.2.1) then texts f.2.1 g.2.1 else bif !(f.2.2.1 == g.2.2.1) then texts f.2.2.1 g.2.2.1 else ordA f.2.2.2 g.2.2.2
def fcAt (r : Row) : Fc := (Row.S r 0, Row.S r 1, Row.S r 2, Row.R r 3)
end Go.Den
namespace Go.Den
open Go.Sort
structure IsOrd {α : Type} (c : α → α → Int) : Prop where
 anti : ∀ a b, c a b = - c b a
 trans : ∀ a b d, c a b ≤ 0 → c b d ≤ 0 → c a d ≤ 0
theorem IsOrd.self {α : Type} {c : α → α → Int} (h : IsOrd c) (a : α) : c a a = 0 := by have := h.anti a a; omega
theorem IsOrd.zero {α : Type} {c : α → α → Int} (h : IsOrd c) {a b d : α} (h1 : c a b ≤ 0) (h2 : c b d ≤ 0) (h3 : c a d = 0) : c a b = 0 ∧ c b d = 0 := by
 have k3 : c d a ≤ 0 := by have := h.anti a d; omega
 have k1 := h.trans d a b k3 h1
 have k2 := h.trans b d a h2 k3
 have := h.anti a b
 have := h.anti b d
 omega
theorem IsOrd.comap {α β : Type} {c : α → α → Int} (h : IsOrd c) (f : β → α) : IsOrd (fun x y => c (f x) (f y)) := ⟨fun _ _ => h.anti _ _, fun _ _ _ => h.trans _ _ _⟩
theorem IsOrd.lex {α : Type} {c d : α → α → Int} (h : IsOrd c) (k : IsOrd d) : IsOrd (fun x y => if c x y = 0 then d x y else c x y) where
 anti a b := by
  have h1 := h.anti a b
  have h2 := k.anti a b
  split <;> split <;> omega
 trans a b e h1 h2 := by
  have k1 : c a b ≤ 0 := by split at h1 <;> omega
  have k2 : c b e ≤ 0 := by split at h2 <;> omega
  have k3 := h.trans a b e k1 k2
  split
  ·rename_i h3
   obtain ⟨z1, z2⟩ := h.zero k1 k2 h3
   rw [if_pos z1] at h1
   rw [if_pos z2] at h2
   exact k.trans a b e h1 h2
  ·exact k3
theorem IsOrd.swo {α : Type} {c : α → α → Int} (h : IsOrd c) : SWO (Go.Proofs.ltOf c) where
 irrefl x := by
  unfold Go.Proofs.ltOf
  have := h.self x
  exact decide_eq_false (by omega)
 trans x y z h1 h2 := by
  unfold Go.Proofs.ltOf at h1 h2 ⊢
  have h1 := of_decide_eq_true h1
  have h2 := of_decide_eq_true h2
  have h3 := h.trans x y z (by omega) (by omega)
  refine decide_eq_true ?_
  by_cases h4 : c x z = 0
  ·have := h.zero (a := x) (b := y) (d := z) (by omega) (by omega) h4; omega
  ·omega
 ntrans x y z h1 h2 := by
  unfold Go.Proofs.ltOf at h1 h2 ⊢
  have h1 := of_decide_eq_false h1
  have h2 := of_decide_eq_false h2
  have a1 := h.anti x y
  have a2 := h.anti y z
  have a3 := h.anti x z
  have := h.trans z y x (by omega) (by omega)
  exact decide_eq_false (by omega)
theorem bytesLess_asymm : ∀ {a b : List UInt8}, Op.bytesLess a b = true → Op.bytesLess b a = false
 |[], [], h => by simp [Op.bytesLess] at h
 |[], _ :: _, _ => by simp [Op.bytesLess]
 |_ :: _, [], h => by simp [Op.bytesLess] at h
 |x :: a, y :: b, h => by
  rw [Op.bytesLess] at h ⊢
  simp only [Bool.or_eq_true, Bool.and_eq_true, decide_eq_true_eq, beq_iff_eq] at h
  simp only [Bool.or_eq_false_iff, Bool.and_eq_false_iff, decide_eq_false_iff_not, beq_eq_false_iff_ne]
  rcases h with h | ⟨rfl, h⟩
  ·exact ⟨by simp only [UInt8.lt_iff_toNat_lt] at *; omega, .inl (fun e => by subst e; simp only [UInt8.lt_iff_toNat_lt] at *; omega)⟩
  ·exact ⟨by simp only [UInt8.lt_iff_toNat_lt] at *; omega, .inr (bytesLess_asymm h)⟩
theorem bytesLess_total : ∀ {a b : List UInt8}, Op.bytesLess a b = false → Op.bytesLess b a = false → a = b
 |[], [], _, _ => rfl
 |[], _ :: _, h, _ => by simp [Op.bytesLess] at h
 |_ :: _, [], _, h => by simp [Op.bytesLess] at h
 |x :: a, y :: b, h, k => by
  rw [Op.bytesLess] at h k
  simp only [Bool.or_eq_false_iff, Bool.and_eq_false_iff, decide_eq_false_iff_not, beq_eq_false_iff_ne] at h k
  have e : x = y := by
   have h1 := h.1
   have k1 := k.1
   simp only [UInt8.lt_iff_toNat_lt] at h1 k1
   exact UInt8.toNat_inj.1 (by omega)
  subst e
  rcases h.2 with h2 | h2
  ·exact absurd rfl h2
  ·rcases k.2 with k2 | k2
   ·exact absurd rfl k2
   ·rw [bytesLess_total h2 k2]
theorem bytesLess_trans : ∀ {a b c : List UInt8}, Op.bytesLess a b = true → Op.bytesLess b c = true → Op.bytesLess a c = true
 |[], [], _, h, _ => by simp [Op.bytesLess] at h
 |[], _ :: _, [], _, h => by simp [Op.bytesLess] at h
 |[], _ :: _, _ :: _, _, _ => by simp [Op.bytesLess]
 |_ :: _, [], _, h, _ => by simp [Op.bytesLess] at h
 |_ :: _, _ :: _, [], _, h => by simp [Op.bytesLess] at h
 |x :: a, y :: b, z :: c, h, k => by
  rw [Op.bytesLess] at h k ⊢
  simp only [Bool.or_eq_true, Bool.and_eq_true, decide_eq_true_eq, beq_iff_eq] at h k ⊢
  rcases h with h | ⟨rfl, h⟩
  ·rcases k with k | ⟨rfl, k⟩
   ·exact .inl (by simp only [UInt8.lt_iff_toNat_lt] at *; omega)
   ·exact .inl h
  ·rcases k with k | ⟨rfl, k⟩
   ·exact .inl k
   ·exact .inr ⟨rfl, bytesLess_trans h k⟩
theorem bytes_inj {a b : ByteArray} (h : ByteArray.toList a = ByteArray.toList b) : a = b := by
 have := congrArg List.toArray h
 rw [Go.Lib.toList_data, Go.Lib.toList_data] at this
 cases a; cases b
 simpa using this
theorem less_total {a b : ByteArray} (h : less a b = false) (k : less b a = false) : a = b := bytes_inj (bytesLess_total h k)
theorem texts_lt {a b : ByteArray} (h : less a b = true) : texts a b = -1 := by unfold texts; rw [h]; rfl
theorem texts_gt {a b : ByteArray} (h : less b a = true) : texts a b = 1 := by
 have h1 : less a b = false := bytesLess_asymm h
 have h2 : (a == b) = false := by
  cases he : a == b with
  |false => rfl
  |true =>
   have := eq_of_beq he
   subst this
   rw [less_irrefl] at h; cases h
 unfold texts; rw [h1, h2]; rfl
theorem texts_cases (a b : ByteArray) : (less a b = true ∧ texts a b = -1 ∧ texts b a = 1) ∨ (less b a = true ∧ texts a b = 1 ∧ texts b a = -1) ∨ (a = b ∧ texts a b = 0 ∧ texts b a = 0) := by
 cases h1 : less a b with
 |true => exact .inl ⟨rfl, texts_lt h1, texts_gt h1⟩
 |false =>
  cases h2 : less b a with
  |true => exact .inr (.inl ⟨rfl, texts_gt h2, texts_lt h2⟩)
  |false =>
   have := less_total h1 h2
   subst this
   exact .inr (.inr ⟨rfl, texts_zero.2 rfl, texts_zero.2 rfl⟩)
theorem texts_ord : IsOrd texts where
 anti a b := by rcases texts_cases a b with ⟨_, h, k⟩ | ⟨_, h, k⟩ | ⟨_, h, k⟩ <;> omega
 trans a b d h1 h2 := by
  rcases texts_cases a b with ⟨l1, h, _⟩ | ⟨_, h, _⟩ | ⟨e, _, _⟩
  ·rcases texts_cases b d with ⟨l2, k, _⟩ | ⟨_, k, _⟩ | ⟨e, _, _⟩
   ·have : less a d = true := bytesLess_trans l1 l2
    rw [texts_lt this]; omega
   ·omega
   ·subst e; omega
  ·omega
  ·subst e; exact h2
def boolC (a b : Bool) : Int := if a = b then 0 else if a then -1 else 1
theorem boolC_ord : IsOrd boolC := ⟨by decide, by decide⟩
def intC (a b : Int) : Int := if a < b then -1 else if b < a then 1 else 0
theorem intC_ord : IsOrd intC where
 anti a b := by unfold intC; split <;> split <;> first | omega | (split <;> omega)
 trans a b d := by unfold intC; intro h1 h2; split at h1 <;> split at h2 <;> split <;> first | omega | (split at h1 <;> first | omega | (split at h2 <;> first | omega | (split <;> omega))) | (split at h2 <;> first | omega | (split <;> omega)) | (split <;> omega)
theorem cmpC_eq (a b : Cn) : cmpC a b = if boolC a.1 b.1 = 0 then (if intC a.2.1 b.2.1 = 0 then texts a.2.2 b.2.2 else intC a.2.1 b.2.1) else boolC a.1 b.1 := by
 obtain ⟨x, i, s⟩ := a
 obtain ⟨y, j, t⟩ := b
 unfold cmpC boolC intC
 simp only
 cases x <;> cases y <;> simp
 all_goals
  by_cases h1 : i < j
  ·simp [h1]
  ·by_cases h2 : j < i <;> simp [h1, h2]
theorem cmpC_ord : IsOrd cmpC := by
 have h := ((boolC_ord.comap (fun c : Cn => c.1)).lex ((intC_ord.comap (fun c : Cn => c.2.1)).lex (texts_ord.comap (fun c : Cn => c.2.2))))
 have e : cmpC = fun a b => if boolC a.1 b.1 = 0 then (if intC a.2.1 b.2.1 = 0 then texts a.2.2 b.2.2 else intC a.2.1 b.2.1) else boolC a.1 b.1 := by funext a b; exact cmpC_eq a b
 rw [e]; exact h
theorem ordA_cons (x y : Row) (l m : Rows) : ordA (x :: l) (y :: m) = if cmpC (cnAt x) (cnAt y) = 0 then ordA l m else cmpC (cnAt x) (cnAt y) := by
 show (bif cmpC (cnAt x) (cnAt y) != 0 then cmpC (cnAt x) (cnAt y) else ordA l m) = _
 by_cases h : cmpC (cnAt x) (cnAt y) = 0
 ·simp [h]
 ·have : (cmpC (cnAt x) (cnAt y) != 0) = true := by simpa using h
  rw [this, if_neg h]; rfl
theorem ordA_anti : ∀ a b : Rows, ordA a b = - ordA b a
 |[], [] => rfl
 |[], _ :: _ => rfl
 |_ :: _, [] => rfl
 |x :: l, y :: m => by
  rw [ordA_cons, ordA_cons]
  have h1 := cmpC_ord.anti (cnAt x) (cnAt y)
  have h2 := ordA_anti l m
  split <;> split <;> omega
theorem ordA_trans : ∀ a b d : Rows, ordA a b ≤ 0 → ordA b d ≤ 0 → ordA a d ≤ 0
 |[], _, [], _, _ => by simp [ordA]
 |[], _, _ :: _, _, _ => by simp [ordA]
 |_ :: _, [], _, h, _ => by simp [ordA] at h
 |_ :: _, _ :: _, [], _, h => by simp [ordA] at h
 |x :: l, y :: m, z :: n, h, k => by
  rw [ordA_cons] at h k ⊢
  have k1 : cmpC (cnAt x) (cnAt y) ≤ 0 := by split at h <;> omega
  have k2 : cmpC (cnAt y) (cnAt z) ≤ 0 := by split at k <;> omega
  split
  ·rename_i h3
   obtain ⟨z1, z2⟩ := cmpC_ord.zero k1 k2 h3
   rw [if_pos z1] at h
   rw [if_pos z2] at k
   exact ordA_trans l m n h k
  ·exact cmpC_ord.trans _ _ _ k1 k2
theorem ordA_ord : IsOrd ordA := ⟨ordA_anti, ordA_trans⟩
theorem texts_bif (a b : ByteArray) (z : Int) : (bif !(a == b) then texts a b else z) = if texts a b = 0 then z else texts a b := by
 by_cases h : a = b
 ·subst h; simp [texts_zero.2 rfl]
 ·have h1 : (a == b) = false := by simpa using h
  have h2 : ¬ texts a b = 0 := fun e => h (texts_zero.1 e)
  rw [h1, if_neg h2]; rfl
theorem ordF_ord : IsOrd ordF := by
 have h := ((texts_ord.comap (fun f : Fc => f.1)).lex ((texts_ord.comap (fun f : Fc => f.2.1)).lex ((texts_ord.comap (fun f : Fc => f.2.2.1)).lex (ordA_ord.comap (fun f : Fc => f.2.2.2)))))
 have e : ordF = fun f g : Fc => if texts f.1 g.1 = 0 then (if texts f.2.1 g.2.1 = 0 then (if texts f.2.2.1 g.2.2.1 = 0 then ordA f.2.2.2 g.2.2.2 else texts f.2.2.1 g.2.2.1) else texts f.2.1 g.2.1) else texts f.1 g.1 := by
  funext f g
  unfold ordF
  rw [texts_bif, texts_bif, texts_bif]
 rw [e]; exact h
end Go.Den
namespace Go.Den
open Go.Proofs Go.Sort Go.Shelf Go.Lib
def rowAt (rows : Rows) (i : Nat) : Row := rows.getD (min i (rows.length - 1)) []
def cmpAt (c : Row → Row → Int) (rows : Rows) (i j : Nat) : Int := c (rowAt rows i) (rowAt rows j)
def sortIx (c : Row → Row → Int) (rows : Rows) : Array Nat := pdq (ltOf (cmpAt c rows)) (Array.range rows.length) 0 (Array.range rows.length).size (Go.Lib.bitLen (Array.range rows.length).size) true true
def sortR (c : Row → Row → Int) (rows : Rows) : Rows := (sortIx c rows).toList.map (rowAt rows)
theorem sortIx_ok {c : Row → Row → Int} {rows : Rows} (hO : SWO (ltOf (cmpAt c rows))) : PermIn 0 (Array.range rows.length).size (Array.range rows.length) (sortIx c rows) ∧ SortedIn (ltOf (cmpAt c rows)) 0 (Array.range rows.length).size (sortIx c rows) :=
  pdq_sorts _ hO _ 0 _ _ _ _ (Nat.zero_le _) (Nat.le_refl _) (.inl rfl)
theorem sortIx_size {c : Row → Row → Int} {rows : Rows} (hO : SWO (ltOf (cmpAt c rows))) : (sortIx c rows).size = rows.length := by
  have := (sortIx_ok hO).1.1
  simpa using this
theorem sortR_length {c : Row → Row → Int} {rows : Rows} (hO : SWO (ltOf (cmpAt c rows))) : (sortR c rows).length = rows.length := by
  unfold sortR
  rw [List.length_map, Array.length_toList, sortIx_size hO]
theorem sortR_perm {c : Row → Row → Int} {rows : Rows} (hO : SWO (ltOf (cmpAt c rows))) : (sortR c rows).Perm rows := by
  have h := (sortIx_ok hO).1
  have h3 := h.2.2
  have e1 : (sortIx c rows).extract 0 (Array.range rows.length).size = sortIx c rows := by rw [← h.1]; simp
  have e2 : (Array.range rows.length).extract 0 (Array.range rows.length).size = Array.range rows.length := by simp
  rw [e1, e2] at h3
  have h4 := h3.map (rowAt rows)
  have e3 : (Array.range rows.length).toList.map (rowAt rows) = rows := by
    apply List.ext_getElem?
    intro i
    simp only [Array.toList_range, List.getElem?_map]
    by_cases hi : i < rows.length
    · rw [List.getElem?_range hi, Option.map_some, List.getElem?_eq_getElem hi]
      unfold rowAt
      rw [Nat.min_eq_left (by omega), List.getD_eq_getElem?_getD, List.getElem?_eq_getElem hi]; rfl
    · rw [List.getElem?_eq_none (by simp; omega), List.getElem?_eq_none (by omega)]; rfl
  rw [e3] at h4
  exact h4
theorem sortR_sorted {c : Row → Row → Int} {rows : Rows} (hO : SWO (ltOf (cmpAt c rows))) : (sortR c rows).Pairwise fun r q => ¬ c q r < 0 := by
  have h := (sortIx_ok hO).2
  have hs := sortIx_size hO
  unfold sortR
  rw [List.pairwise_map, List.pairwise_iff_getElem]
  intro i j hi hj hij
  rw [Array.length_toList] at hi hj
  have := h i j (Nat.zero_le _) hij (by simp; omega)
  rw [getElem!_pos _ j hj, getElem!_pos _ i hi] at this
  unfold ltOf cmpAt at this
  simpa using this

theorem ArrV.of {M : Mm} {ks : List Kd} : ∀ (rows : Rows) (l : List Value), rows.length * ks.length ≤ l.length → (∀ i, i < rows.length → Row.ofKds ks (rows.getD i []) = true ∧ CellsV M (rows.getD i []) ((l.drop (i * ks.length)).take ks.length)) → ArrV M ks rows l
  | [], l, _, _ => .nil l
  | r :: rows, l, hl, h => by
    have h0 := h 0 (by simp)
    simp only [List.getD_cons_zero, Nat.zero_mul, List.drop_zero] at h0
    have hl' : (rows.length + 1) * ks.length ≤ l.length := hl
    rw [Nat.add_mul] at hl'
    have ih := ArrV.of (M := M) (ks := ks) rows (l.drop ks.length) (by rw [List.length_drop]; omega) (fun i hi => by
      have h1 := h (i + 1) (by simp; omega)
      rw [List.getD_cons_succ] at h1
      rw [List.drop_drop]
      have e : ks.length + i * ks.length = (i + 1) * ks.length := by rw [Nat.add_mul]; omega
      rw [e]
      exact h1)
    have := ArrV.cons r _ rows _ h0.1 h0.2 ih
    rwa [List.take_append_drop] at this
theorem ArrV.row {M : Mm} {ks : List Kd} {rows : Rows} {l : List Value} (h : ArrV M ks rows l) {i : Nat} (hi : i < rows.length) : Row.ofKds ks (rows.getD i []) = true ∧ CellsV M (rows.getD i []) ((l.drop (i * ks.length)).take ks.length) := by
  obtain ⟨l1, vs, l2, rfl, h1, h2, h3, _⟩ := h.split hi
  refine ⟨h2, ?_⟩
  have h4 := h3.length
  have h5 := Row.ofKds_length h2
  rw [List.append_assoc, ← h1, List.drop_left, List.take_append_of_le_length (by omega), List.take_of_length_le (by omega)]
  exact h3
theorem CellsV.one {M : Mm} : ∀ {r : Row} {vs : List Value}, CellsV M r vs → ∀ v ∈ vs, v.oneCell' = true
  | _, _, .nil, v, hv => by cases hv
  | _, _, .cons d u r vs h1 h2, v, hv => by
    rcases List.mem_cons.1 hv with rfl | hv
    · exact h1.one
    · exact h2.one v hv
theorem rowAt_lt {rows : Rows} (h : rows ≠ []) (i : Nat) : min i (rows.length - 1) < rows.length := by
  have : 0 < rows.length := List.length_pos_iff.2 h
  omega

theorem Inv.within {P : Program} {w : World} {x : X} {E L : List Nat} {m : Mem} (hI : Inv ⟨P, w, x, E, [], L⟩ x w m) (htk : ∀ k, x.tk k = none) {W : World} (hsub : ∀ b o v, x.M b o = some v → W.cell? ⟨b, o, none⟩ = some v) (hs : w.heap.size ≤ W.heap.size) (hg : ∀ g v, x.M g 0 = some v → W.heap[g]? = w.heap[g]?) : Inv ⟨P, W, x, [], [], []⟩ x W [] where
  sub := hsub
  slot k cs hk := by cases hk
  inj k k' cs cs' b hk := by cases hk
  tok k v sz hk := by rw [htk] at hk; cases hk
  tokslot k a n c sz j cs hk := by rw [htk] at hk; cases hk
  toktok k k' a n c sz a' n' c' sz' hk := by rw [htk] at hk; cases hk
  os := rfl
  tape := rfl
  output := rfl
  size := Nat.le_refl _
  old b _ _ _ := rfl
  mono := Sub.refl _
  new b o v hv := .inl hv
  ext k _ := rfl
  low b o v hv := Nat.lt_of_lt_of_le (hI.low b o v hv) hs
  more := ⟨fun k b cs hk => (by cases hk), fun _ _ => rfl, hI.more.M0, fun k b cs arr ty hk => (by cases hk), Nat.le_refl _⟩
  glob g h := by
    obtain ⟨⟨ty, fr, h1⟩, ⟨v, h2⟩, _, _⟩ := hI.glob g h
    exact ⟨⟨ty, fr, by rw [hg g v h2]; exact h1⟩, ⟨v, h2⟩, by simp, by simp⟩
theorem world_grown {W w' : World} (ho : w'.os = W.os) (ht : w'.tape = W.tape) (hu : w'.output = W.output) (hs : W.heap.size ≤ w'.heap.size) (hh : ∀ b, b < W.heap.size → w'.heap[b]? = W.heap[b]?) (hd : W.drawn ≤ w'.drawn) : ∃ q os', w' = grow (W.drewN q) os' := by
  refine ⟨w'.drawn - W.drawn, w'.heap.extract W.heap.size w'.heap.size, ?_⟩
  have e : (grow (W.drewN (w'.drawn - W.drawn)) (w'.heap.extract W.heap.size w'.heap.size)) = { W with drawn := W.drawn + (w'.drawn - W.drawn), heap := W.heap ++ w'.heap.extract W.heap.size w'.heap.size } := rfl
  rw [e]
  have h1 : W.heap ++ w'.heap.extract W.heap.size w'.heap.size = w'.heap := by
    apply Array.ext_getElem?
    intro i
    rw [Array.getElem?_append]
    split
    · rename_i hi; exact (hh i hi).symm
    · rename_i hi
      rw [Array.getElem?_extract]
      by_cases h2 : i < w'.heap.size
      · rw [if_pos (by omega)]; congr 1; omega
      · rw [if_neg (by omega)]; exact (Array.getElem?_eq_none (by omega)).symm
  rw [h1, show W.drawn + (w'.drawn - W.drawn) = w'.drawn by omega, ← ho, ← ht, ← hu]
theorem heap_putRowK {enc : Nat → List Value} {k : Nat} {w : World} {b m : Nat} {d : Array Nat} {os : Array Obj} {arr : Array Value} {ty : TypeId} (hb : w.heap[b]? = some (.cells arr ty (0, 0))) :
    (sortWorldK enc k w b 0 m d os).heap[b]? = some (.cells (putCells id 0 (flatK enc k d) arr) ty (0, 0)) ∧
    (∀ b', b' < w.heap.size → b' ≠ b → (sortWorldK enc k w b 0 m d os).heap[b']? = w.heap[b']?) ∧ w.heap.size ≤ (sortWorldK enc k w b 0 m d os).heap.size := by
  have hlt := (Array.getElem?_eq_some_iff.1 hb).1
  have hsz : (putRowK enc k (Sort.ahead w m) b 0 d).heap.size = w.heap.size := by
    show (w.heap.modify b _).size = _
    simp
  refine ⟨?_, fun b' hb' hne => ?_, ?_⟩
  · unfold sortWorldK
    rw [heap_grow_old _ _ (by rw [hsz]; exact hlt)]
    show (w.heap.modify b (onCells _))[b]? = _
    rw [Array.getElem?_modify, if_pos rfl, hb]; rfl
  · unfold sortWorldK
    rw [heap_grow_old _ _ (by rw [hsz]; exact hb')]
    show (w.heap.modify b (onCells _))[b']? = _
    rw [Array.getElem?_modify, if_neg (Ne.symm hne)]
  · unfold sortWorldK
    rw [size_grow, hsz]; omega

section
variable {P : Program} {ρ : Ren}
theorem sortFunc_contract (L0 : SlLaysF0.n6 P ρ) (ks : List Kd) (aE : ∀ w, (isAgg (ρ.t 24)).run P w = .ok true w) (zE : ∀ w, (Go.sizeOf (ρ.t 24)).run P w = .ok ks.length w)
    (hf : ∃ fn, P.funcs[ρ.f 6]? = some fn ∧ fn.body.isSome = true ∧ fn.name ≠ "runtime.NumGoroutine") (g : Nat) (eg : ∀ args w, (callFunc g args).run P w = .ok (.enter g args) w)
    (c : Row → Row → Int) (rows : Rows) (hne : rows ≠ []) (hO : SWO (ltOf (cmpAt c rows))) (hsz : rows.length < 4611686018427387904)
    (hc : ∀ i j, Contract P g [.agg (Row.cells (rowAt rows i) ks 0), .agg (Row.cells (rowAt rows j) ks 0)] [] ⟨false, .dv (.val (.int .i64 (cmpAt c rows i j))), []⟩) (cap : Nat) :
    Contract P (ρ.f 6) [.ms 1000 ks 0 rows.length cap, .fn g []] [[.arr ks rows]] ⟨false, .tup [], [[.arr ks (sortR c rows)]]⟩ := by
  refine .inl ⟨hf, fun w x E L vs htok hI hR => ?_⟩
  obtain ⟨hL, htk⟩ := htok rfl
  cases hR with | cons _ v1 _ vs1 h1 h2 =>
  cases h2 with | cons _ v2 _ vs2 h3 h4 =>
  cases h4
  cases h3 with | fn _ _ us h5 =>
  cases h5
  cases h1 with | ms _ _ _ _ _ b o c' hloc hnc ho hcap =>
  have hn0 : 0 < rows.length := List.length_pos_iff.2 hne
  have ho : o = 0 := by have := ho (by omega); simpa using this
  subst ho
  obtain ⟨b1, ty, arr, g1, g2, g3, g4, g5⟩ := hI.slot 1000 [.arr ks rows] rfl
  rw [hloc] at g1
  cases g1
  rw [objOf_cells (isMp_arr _ _)] at g3
  have hlt := (Array.getElem?_eq_some_iff.1 g3).1
  have hE : b ∈ E := by
    rcases g2 with g2 | g2
    · exact absurd hlt (by have : w.heap.size ≤ b := g2; omega)
    · exact g2.1
  have harr := g4.arr
  have hlen : rows.length * ks.length ≤ arr.size := by have := harr.length; simpa using this
  -- the places' cells
  let enc : Nat → List Value := fun i => (arr.toList.drop (min i (rows.length - 1) * ks.length)).take ks.length
  have henc : ∀ i, CellsV x.M (rowAt rows i) (enc i) ∧ Row.ofKds ks (rowAt rows i) = true := fun i => by
    have := harr.row (rowAt_lt hne i)
    exact ⟨this.2, this.1⟩
  have hk : ∀ i, (enc i).length = ks.length := fun i => by
    have h := (henc i)
    have h1 := h.1.length
    have h2 := Row.ofKds_length h.2
    omega
  have hone : ∀ i, ∀ v ∈ enc i, v.oneCell' = true := fun i => (henc i).1.one
  have hcell : ∀ i q, i < rows.length → q < ks.length → (enc i)[q]! = arr[i * ks.length + q]! := fun i q hi hq => by
    have hb : i * ks.length + q < arr.size := by
      have := Nat.mul_le_mul_right ks.length (show i + 1 ≤ rows.length from hi)
      rw [Nat.add_mul] at this; omega
    have e1 : (enc i)[q]? = arr[i * ks.length + q]? := by
      show ((arr.toList.drop (min i (rows.length - 1) * ks.length)).take ks.length)[q]? = _
      rw [Nat.min_eq_left (by omega), List.getElem?_take_of_lt hq, List.getElem?_drop, Array.getElem?_toList]
    rw [List.getElem!_eq_getElem?_getD, e1, Array.getElem!_eq_getD, Array.getD_eq_getD_getElem?]
  have hflat : ∀ t, t < rows.length * ks.length → (flatK enc ks.length (Array.range rows.length))[t]! = arr[t]! := fun t ht => by
    have k0 : 0 < ks.length := by rcases Nat.eq_zero_or_pos ks.length with h | h; · rw [h] at ht; simp at ht
                                  · exact h
    have hd : t / ks.length < rows.length := Nat.div_lt_of_lt_mul (by rw [Nat.mul_comm]; exact ht)
    rw [get_flatK _ _ _ _ (by simpa using ht)]
    have e : (Array.range rows.length)[t / ks.length]! = t / ks.length := by rw [getElem!_pos _ _ (by simpa using hd)]; simp
    rw [e, hcell _ _ hd (Nat.mod_lt _ k0)]
    have e3 : t / ks.length * ks.length + t % ks.length = t := by have := Nat.div_add_mod t ks.length; rw [Nat.mul_comm] at this; exact this
    exact congrArg (fun q : Nat => arr[q]!) e3
  have hH : HoldsK enc ks.length w b 0 (Array.range rows.length) := by
    intro t ht
    have ht' : t < rows.length * ks.length := by simpa using ht
    have hb : t < arr.size := by omega
    rw [hflat t ht']
    constructor
    · unfold World.cell?
      rw [g3]
      simp only [Nat.zero_add]
      have e : arr[t]! = arr[t] := getElem!_pos arr t hb
      rw [e]
      simp [hb]
    · unfold World.frozen?
      rw [g3]
      simp
  have hcmp : CmpLays P g #[] enc ks.length (cmpAt c rows) b 0 (Array.range rows.length).size w := by
    intro m os dk hdk i j
    obtain ⟨k1, k2, k3⟩ := heap_putRowK (enc := enc) (k := ks.length) (m := m) (d := dk) (os := os) g3
    have hsub : ∀ b' o v, x.M b' o = some v → (sortWorldK enc ks.length w b 0 m dk os).cell? ⟨b', o, none⟩ = some v := fun b' o v hv => by
      have hbne : b' ≠ b := fun e => by subst e; rw [g5] at hv; cases hv
      rw [World.cell?_of_block (w := w) (k2 b' (hI.lt hv) hbne)]
      exact hI.sub b' o v hv
    have hI2 := hI.within htk hsub k3 (fun g v hv => k2 g (hI.lt hv) (fun e => by subst e; rw [g5] at hv; cases hv))
    obtain ⟨_, hcc⟩ := (hc i j).ord (Nat.le_refl _)
    have hrep : ∀ i, Rep x (.agg (Row.cells (rowAt rows i) ks 0)) (.agg (enc i).toArray) := fun i => by
      have h := rep_cells_from (henc i).1 (henc i).2 ks 0 (fun q _ => by rw [Nat.zero_add])
      have e : ((enc i).drop 0).take ks.length = enc i := by rw [List.drop_zero, List.take_of_length_le (by rw [hk]; exact Nat.le_refl _)]
      rw [e] at h
      exact .agg _ _ h
    have hcall := hcc (sortWorldK enc ks.length w b 0 m dk os) x [] [] [.agg (enc i).toArray, .agg (enc j).toArray] (fun _ => ⟨rfl, htk⟩) hI2 (.cons _ _ _ _ (hrep i) (.cons _ _ _ _ (hrep j) .nil))
    refine Calls.mono ?_ ?_ (R := fun en w' => ∃ x' v, ([] : List (List AV)).length = ([] : List (List AV)).length ∧ (en = .returned v) ∧ Inv ⟨P, sortWorldK enc ks.length w b 0 m dk os, x, [], [], []⟩ x' w' [] ∧ Rep x' (.dv (.val (.int .i64 (cmpAt c rows i j)))) v)
    · exact hcall
    · rintro en w' ⟨x', v, _, rfl, hI3, hr⟩
      cases hr with | dv _ _ hd =>
      cases hd
      refine ⟨rfl, ?_⟩
      exact world_grown hI3.os hI3.tape hI3.output hI3.size (fun b' hb' => hI3.old b' hb' (by simp) (by simp)) hI3.more.drawn
  have key := AnyQ.slices_SortFunc_eq L0 ks.length aE zE enc hk hone (cmpAt c rows) hO g #[] b 0 c' (Array.range rows.length) w eg hcmp hH hlt (by simpa using hsz)
  have esz : (Array.range rows.length).size = rows.length := by simp
  refine Calls.mono (R := fun e w' => e = .returned (.tuple #[]) ∧ ∃ n os, w' = sortWorldK enc ks.length w b 0 n (sortIx c rows) os) ?_ ?_
  · have e2 : (#[Value.slice (some ⟨b, 0, none⟩) (Array.range rows.length).size c', Value.func (Fn.func g) #[] #[]] : Array Value) = ⟨[Value.slice (some ⟨b, 0, none⟩) rows.length c', Value.func (Fn.func g) #[] #[]]⟩ := by rw [esz]
    rw [e2] at key
    have e4 : sortIx c rows = pdq (ltOf (cmpAt c rows)) (Array.range rows.length) 0 (Array.range rows.length).size (Lib.bitLen (Array.range rows.length).size) true true := rfl
    rw [e4]
    exact key
  · rintro en w' ⟨rfl, m, os, rfl⟩
    obtain ⟨k1, k2, k3⟩ := heap_putRowK (enc := enc) (k := ks.length) (m := m) (d := sortIx c rows) (os := os) g3
    have hixs := sortIx_size hO
    refine ⟨x, .tuple #[], rfl, rfl, ?_, .tup [] [] .nil⟩
    have hsizeA : (putCells id 0 (flatK enc ks.length (sortIx c rows)) arr).size = arr.size := by simp [putCells]
    have hgetA : ∀ t, t < rows.length * ks.length → (putCells id 0 (flatK enc ks.length (sortIx c rows)) arr)[t]? = some (flatK enc ks.length (sortIx c rows))[t]! := fun t ht => by
      have hb : t < arr.size := by omega
      unfold putCells
      rw [Array.getElem?_mapIdx, Array.getElem?_eq_getElem hb, Option.map_some, if_pos ⟨Nat.zero_le _, by rw [size_flatK, hixs]; omega⟩, Nat.sub_zero]; rfl
    have hl2 : (sortR c rows).length * ks.length ≤ (putCells id 0 (flatK enc ks.length (sortIx c rows)) arr).toList.length := by
      have h1 := sortR_length hO
      have h2 : (putCells id 0 (flatK enc ks.length (sortIx c rows)) arr).toList.length = arr.size := by rw [Array.length_toList]; exact hsizeA
      rw [h1, h2]; exact hlen
    have harr2 : ArrV x.M ks (sortR c rows) (putCells id 0 (flatK enc ks.length (sortIx c rows)) arr).toList := by
      refine ArrV.of _ _ hl2 fun i hi => ?_
      rw [sortR_length hO] at hi
      have hi2 : i < (sortIx c rows).size := by omega
      have e1 : (sortR c rows).getD i [] = rowAt rows (sortIx c rows)[i] := by
        unfold sortR
        rw [List.getD_eq_getElem?_getD, List.getElem?_map, Array.getElem?_toList, Array.getElem?_eq_getElem hi2]; rfl
      have e2 : ((putCells id 0 (flatK enc ks.length (sortIx c rows)) arr).toList.drop (i * ks.length)).take ks.length = enc (sortIx c rows)[i] := by
        apply List.ext_getElem?
        intro q
        by_cases hq : q < ks.length
        · have hb : i * ks.length + q < rows.length * ks.length := by
            have := Nat.mul_le_mul_right ks.length (show i + 1 ≤ rows.length from hi)
            rw [Nat.add_mul] at this; omega
          have k0 : 0 < ks.length := by omega
          rw [List.getElem?_take_of_lt hq, List.getElem?_drop, Array.getElem?_toList, hgetA _ hb, get_flatK _ _ _ _ (by rw [hixs]; exact hb)]
          have d1 : (i * ks.length + q) / ks.length = i := (blk_iff ks.length i _ k0).1 ⟨by omega, by omega⟩
          have d2 : (i * ks.length + q) % ks.length = q := by rw [Nat.mod_eq_sub_div_mul, d1]; omega
          have hq2 : q < (enc (sortIx c rows)[i]).length := by rw [hk]; exact hq
          rw [d1, d2, getElem!_pos _ i hi2, getElem!_pos _ q hq2, List.getElem?_eq_getElem hq2]
        · rw [List.getElem?_eq_none (by rw [List.length_take]; omega), List.getElem?_eq_none (by rw [hk]; omega)]
      rw [e1, e2]
      exact ⟨(henc _).2, (henc _).1⟩
    refine ⟨?_, ?_, ?_, ?_, ?_, ?_, rfl, rfl, rfl, k3, ?_, Sub.refl _, fun b' o v hv => .inl hv, fun _ _ => rfl, hI.low, ?_, hI.glob⟩
    · intro b' o v hv
      have hbne : b' ≠ b := fun e => by subst e; rw [g5] at hv; cases hv
      rw [World.cell?_of_block (w := w) (k2 b' (hI.lt hv) hbne)]
      exact hI.sub b' o v hv
    · intro k cs hk'
      have hk1 : k = 1000 ∧ cs = [.arr ks (sortR c rows)] := by
        by_cases h : k = 1000
        · subst h; cases hk'; exact ⟨rfl, rfl⟩
        · exfalso
          have : lookup (zipExt 1000 [[AV.arr ks (sortR c rows)]]) k = none := by
            have hb : Nat.beq k 1000 = false := (by cases hq : Nat.beq k 1000 with
            | false => rfl
            | true => exact absurd (Nat.eq_of_beq_eq_true hq) h)
            simp [zipExt, lookup, hb, Ne.symm h, h]
          rw [this] at hk'; cases hk'
      obtain ⟨rfl, rfl⟩ := hk1
      exact ⟨b, ty, _, hloc, .inr ⟨hE, Nat.le_refl _⟩, by rw [objOf_cells (isMp_arr _ _)]; exact k1, .inr (.inl ⟨ks, _, rfl, harr2⟩), g5⟩
    · intro k k' cs cs' b' hk1 hk2 _ _
      have hone' : ∀ {k cs}, lookup (zipExt 1000 [[AV.arr ks (sortR c rows)]]) k = some cs → k = 1000 := fun {k cs} hk' => by
        by_cases h : k = 1000
        · exact h
        · exfalso
          have : lookup (zipExt 1000 [[AV.arr ks (sortR c rows)]]) k = none := by
            have hb : Nat.beq k 1000 = false := (by cases hq : Nat.beq k 1000 with
            | false => rfl
            | true => exact absurd (Nat.eq_of_beq_eq_true hq) h)
            simp [zipExt, lookup, hb, Ne.symm h, h]
          rw [this] at hk'; cases hk'
      rw [hone' hk1, hone' hk2]
    · intro k v sz hk'; rw [htk] at hk'; cases hk'
    · intro k a n c sz j cs hk'; rw [htk] at hk'; cases hk'
    · intro k k' a n c sz a' n' c' sz' hk'; rw [htk] at hk'; cases hk'
    · intro b' hb' hnE _
      exact k2 b' hb' (fun e => hnE (by subst e; exact hE))
    · refine ⟨fun k b' cs hk' _ hb' => ?_, fun _ _ => rfl, hI.more.M0, fun k b' cs arr0 ty0 hk' hv' => ?_, ?_⟩
      · have h : k = 1000 := by
          by_cases h : k = 1000
          · exact h
          · exfalso
            have : lookup (zipExt 1000 [[AV.arr ks (sortR c rows)]]) k = none := by
              have hb : Nat.beq k 1000 = false := (by cases hq : Nat.beq k 1000 with
            | false => rfl
            | true => exact absurd (Nat.eq_of_beq_eq_true hq) h)
              simp [zipExt, lookup, hb, Ne.symm h, h]
            rw [this] at hk'; cases hk'
        subst h
        rw [hloc] at hb'
        cases hb'
        obtain ⟨arr0, ty0, r1, r2⟩ := hI.more.room 1000 b _ rfl rfl hloc
        rw [g3] at r1
        cases r1
        exact ⟨_, _, k1, by rw [hsizeA]; exact r2⟩
      · exfalso
        rw [lookup_zipExt] at hk'
        split at hk'
        · cases hq : k - 1000 with
          | zero => rw [hq] at hk'; simp at hk'; subst hk'; cases hv'
          | succ q => rw [hq] at hk'; simp at hk'
        · cases hk'
      · show w.drawn ≤ w.drawn + m
        omega
theorem sortFunc_none (L0 : SlLaysF0.n6 P ρ) (ks : List Kd) (hf : ∃ fn, P.funcs[ρ.f 6]? = some fn ∧ fn.body.isSome = true ∧ fn.name ≠ "runtime.NumGoroutine") (nl : Bool) (g : Nat) :
    Contract P (ρ.f 6) [.sl nl ks [] .no, .fn g []] [] ⟨false, .tup [], []⟩ := by
  refine .inl ⟨hf, fun w x E L vs htok hI hR => ?_⟩
  cases hR with | cons _ v1 _ vs1 h1 h2 =>
  cases h2 with | cons _ v2 _ vs2 h3 h4 =>
  cases h4
  cases h1 with | sl _ _ _ _ _ hd _ =>
  have hv : ∃ p c, v1 = .slice p 0 c := by
    cases hd with
    | nil => exact ⟨_, _, rfl⟩
    | sl => exact ⟨_, _, rfl⟩
  obtain ⟨p, c, rfl⟩ := hv
  refine (AnyF.slices_SortFunc_none L0 p c v2 w).mono ?_
  rintro en w' ⟨rfl, rfl⟩
  exact ⟨x, .tuple #[], rfl, rfl, hI, .tup [] [] .nil⟩
end
end Go.Den
