import Derived.Test.YtlpnccpagikioaaDoorDen13
import Derived.Deep.LoopGhost
import Derived.Scope
set_option linter.unusedVariables false
set_option linter.unusedSimpArgs false
set_option linter.unusedSectionVars false
/- Slices that are written: thawed, and frozen again. -/
namespace Go.Den
variable {e : Env} {R : Type} {res : R}

/-- The abstract state is one of the world's. -/
structure StOk (e : Env) (x : X) (w : World) (s : St) (a : Act) : Prop where
  inv : Inv e x w s.m
  tmps : RepL x s.t a.tmps.toList
  defers : a.defers = e.D

/-! tags -/
def vtag : Value → Nat
  | .bool _ => 0
  | .int _ _ => 1
  | .string _ => 2
  | .slice _ _ _ => 3
  | _ => 4
theorem ofKd_tag {M : Mm} {k : Kd} {d : DV} {v : Value} (h : DV.ofKd k d = true) (hr : RepD M d v) (h4 : k.tag ≠ 4) : vtag v = k.tag := by
  cases k with
  | b => cases d with
    | val u => cases u <;> simp [DV.ofKd] at h; cases hr; rfl
    | sl => simp [DV.ofKd] at h
  | i k => cases d with
    | val u => cases u <;> simp [DV.ofKd] at h; cases hr; rfl
    | sl => simp [DV.ofKd] at h
  | s => cases d with
    | val u => cases u <;> simp [DV.ofKd] at h; cases hr; rfl
    | sl => simp [DV.ofKd] at h
  | sl ks => cases d with
    | val u => simp [DV.ofKd] at h
    | sl n ls rows => cases hr <;> rfl
  | o => exact absurd rfl h4
theorem tagIn_get : ∀ {ks : List Kd} {j : Nat} {k : Kd} {t : Nat}, ks[j]? = some k → (k.tag = t ∨ k.tag = 4) → Kd.tagIn t ks = true
  | [], j, k, t, h, _ => by simp at h
  | k0 :: ks, 0, k, t, h, ht => by
    simp at h; subst h
    simp only [Kd.tagIn, Bool.or_eq_true, beq_eq]
    exact .inl ht
  | k0 :: ks, j + 1, k, t, h, ht => by
    simp only [Kd.tagIn, Bool.or_eq_true]
    exact .inr (tagIn_get (j := j) (by simpa using h) ht)
theorem rows_typed {M : Mm} : ∀ {b o : Nat} {ks : List Kd} {rows : Rows}, RowsAt M b o ks rows → ∀ {q : Nat} {v : Value}, o ≤ q → q < o + rows.length * ks.length → M b q = some v → Kd.tagIn (vtag v) ks = true
  | _, _, _, _, .nil b o ks, q, v, h1, h2, _ => by simp at h2; omega
  | _, _, _, _, .cons b o ks row rows h1 h2 h3, q, v, h4, h5, h6 => by
    have hl := Row.ofKds_length h1
    by_cases hq : q < o + ks.length
    · obtain ⟨j, rfl⟩ : ∃ j, q = o + j := ⟨q - o, by omega⟩
      have hj : j < row.length := by omega
      obtain ⟨u, hu, hr⟩ := h2.get (List.getElem?_eq_getElem hj)
      rw [h6] at hu
      obtain rfl := Option.some.inj hu
      have hj' : j < ks.length := by omega
      have hk : ks[j]? = some ks[j] := List.getElem?_eq_getElem hj'
      obtain ⟨d, hd, ho⟩ := Row.ofKds_get h1 hk
      rw [List.getElem?_eq_getElem hj] at hd
      obtain rfl := Option.some.inj hd
      by_cases h4 : ks[j].tag = 4
      · exact tagIn_get hk (.inr h4)
      · exact tagIn_get hk (.inl (ofKd_tag ho hr h4).symm)
    · refine rows_typed h3 (by omega) ?_ h6
      simp only [List.length_cons, Nat.add_mul, Nat.one_mul] at h5
      omega

/-! what M knows, but of one block -/
def cut (M : Mm) (T : Nat) : Mm := fun b o => if b = T then none else M b o
theorem cut_ne (M : Mm) {T b : Nat} (o : Nat) (h : b ≠ T) : cut M T b o = M b o := by simp [cut, h]
section
variable {M : Mm} {T : Nat} {ks : List Kd} (hty : ∀ q v, M T q = some v → Kd.tagIn (vtag v) ks = true)
include hty
theorem outs_ne {ls : List Kd} {row : Row} {b o : Nat} (h : Kd.outs ks ls = true) (ho : Row.ofKds ls row = true) (hc : CellsAt M b o row) : b ≠ T := by
  rintro rfl
  cases ls with
  | nil => simp [Kd.outs] at h
  | cons l ls =>
    cases row with
    | nil => simp [Row.ofKds] at ho
    | cons d r =>
      simp only [Kd.outs, Bool.and_eq_true, Bool.not_eq_true'] at h
      simp only [Row.ofKds, Bool.and_eq_true] at ho
      cases hc with
      | cons _ _ _ v _ h1 h2 h3 =>
        have h4 : l.tag ≠ 4 := fun e => by have := h.1; rw [beq_eq.2 e] at this; cases this
        have := hty _ _ h1
        rw [ofKd_tag ho.1 h2 h4] at this
        rw [h.2] at this; cases this
mutual
theorem meltD : ∀ {d : DV} {v : Value}, RepD M d v → (∀ nl ls rows, d = .sl nl ls rows → Kd.outs ks ls = true ∧ Kd.inners ks ls = true) → RepD (cut M T) d v
  | _, _, .val v h, _ => .val v h
  | _, _, .nil ls, _ => .nil ls
  | _, _, .sl ls rows a c h1 h2 h3, h => .sl ls rows a c h1 h2 (by
      cases h3 with
      | nil => exact .nil _ _ _
      | cons _ _ _ row rows g1 g2 g3 =>
        obtain ⟨k1, k2⟩ := h _ _ _ rfl
        have hb := outs_ne hty k1 g1 g2
        exact .cons _ _ _ _ _ g1 (meltC g2 hb g1 k2) (meltR g3 hb k2))
theorem meltR : ∀ {b o : Nat} {ls : List Kd} {rows : Rows}, RowsAt M b o ls rows → b ≠ T → Kd.inners ks ls = true → RowsAt (cut M T) b o ls rows
  | _, _, _, _, .nil b o ls, _, _ => .nil b o ls
  | _, _, _, _, .cons b o ls row rows g1 g2 g3, hb, k2 => .cons b o ls row rows g1 (meltC g2 hb g1 k2) (meltR g3 hb k2)
theorem meltC : ∀ {b o : Nat} {row : Row}, CellsAt M b o row → b ≠ T → ∀ {l : List Kd}, Row.ofKds l row = true → Kd.inners ks l = true → CellsAt (cut M T) b o row
  | _, _, _, .nil b o, _, l, _, _ => .nil b o
  | _, _, _, .cons b o d v r h1 h2 h3, hb, l, ho, hi => by
    cases l with
    | nil => simp [Row.ofKds] at ho
    | cons k l =>
      simp only [Row.ofKds, Bool.and_eq_true] at ho
      simp only [Kd.inners, Bool.and_eq_true] at hi
      refine .cons b o d v r (by rw [cut_ne M o hb]; exact h1) (meltD h2 ?_) (meltC h3 hb ho.2 hi.2)
      rintro nl ls rows rfl
      cases k with
      | sl ls' =>
        have := Kd.sameL_eq (by simpa [DV.ofKd] using ho.1)
        subst this
        simpa [Kd.inner, Bool.and_eq_true] using hi.1
      | b => simp [DV.ofKd] at ho
      | i k => simp [DV.ofKd] at ho
      | s => simp [DV.ofKd] at ho
      | o => simp [DV.ofKd] at ho
end
theorem meltV : ∀ {row : Row} {vs : List Value}, CellsV M row vs → ∀ {l : List Kd}, Row.ofKds l row = true → Kd.inners ks l = true → CellsV (cut M T) row vs
  | _, _, .nil, l, _, _ => .nil
  | _, _, .cons d v r vs h2 h3, l, ho, hi => by
    cases l with
    | nil => simp [Row.ofKds] at ho
    | cons k l =>
      simp only [Row.ofKds, Bool.and_eq_true] at ho
      simp only [Kd.inners, Bool.and_eq_true] at hi
      refine .cons d v r vs (meltD hty h2 ?_) (meltV h3 ho.2 hi.2)
      rintro nl ls rows rfl
      cases k with
      | sl ls' =>
        have := Kd.sameL_eq (by simpa [DV.ofKd] using ho.1)
        subst this
        simpa [Kd.inner, Bool.and_eq_true] using hi.1
      | b => simp [DV.ofKd] at ho
      | i k => simp [DV.ofKd] at ho
      | s => simp [DV.ofKd] at ho
      | o => simp [DV.ofKd] at ho
theorem meltA : ∀ {ls : List Kd} {rows : Rows} {l : List Value}, ArrV M ls rows l → Kd.inners ks ls = true → ArrV (cut M T) ls rows l
  | _, _, _, .nil l, _ => .nil l
  | _, _, _, .cons row vs rows l h1 h2 h3, hi => .cons row vs rows l h1 (meltV hty h2 h1 hi) (meltA h3 hi)
end
/-- Rows in a block, as the block's content. -/
theorem RowsAt.arrV {M : Mm} : ∀ {b o : Nat} {ks : List Kd} {rows : Rows}, RowsAt M b o ks rows → ∀ {l : List Value}, (∀ q v, M b (o + q) = some v → l[q]? = some v) → ArrV M ks rows l
  | _, _, _, _, .nil b o ks, l, _ => .nil l
  | _, _, _, _, .cons b o ks row rows h1 h2 h3, l, h => by
    have hl := Row.ofKds_length h1
    obtain ⟨us, hu1, hu2, hu3⟩ := cells_take h2 l h
    rw [← List.take_append_drop row.length l]
    refine .cons row _ rows _ h1 hu3 (RowsAt.arrV h3 fun q v hq => ?_)
    rw [List.getElem?_drop]
    refine h _ _ ?_
    rw [← hq]; congr 1; omega
where cells_take {M : Mm} : ∀ {b o : Nat} {row : Row}, CellsAt M b o row → ∀ (l : List Value), (∀ q v, M b (o + q) = some v → l[q]? = some v) → ∃ us : List Value, us = l.take row.length ∧ us.length = row.length ∧ CellsV M row (l.take row.length)
  | _, _, _, .nil b o, l, _ => ⟨[], by simp, rfl, by simpa using CellsV.nil⟩
  | _, _, _, .cons b o d v r h1 h2 h3, l, h => by
    have h0 := h 0 v (by simpa using h1)
    cases l with
    | nil => simp at h0
    | cons v' l =>
      simp at h0; subst h0
      obtain ⟨us, g1, g2, g3⟩ := cells_take h3 l (fun q u hq => by have := h (q + 1) u (by rw [← hq]; congr 1; omega); simpa using this)
      exact ⟨v' :: us, by simp [g1], by simp [g2], by simpa using CellsV.cons d v' r _ h2 g3⟩
end Go.Den
