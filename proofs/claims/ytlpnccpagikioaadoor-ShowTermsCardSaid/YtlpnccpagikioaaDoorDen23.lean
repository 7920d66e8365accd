import Derived.Test.YtlpnccpagikioaaDoorDen22
set_option linter.unusedVariables false
set_option linter.unusedSimpArgs false
set_option linter.unusedSectionVars false
/- Plain facts for the equations' laws. -/
namespace Go.Den
theorem wrap_i64 {z : Int} (h1 : -9223372036854775808 ≤ z) (h2 : z < 9223372036854775808) : IntKind.wrap IntKind.i64 z = z := by
  unfold IntKind.wrap
  simp only [IntKind.bits, IntKind.signed]
  first
    | (simp; omega)
    | omega
theorem wrap_succ {j : Nat} (h : j < big) : IntKind.wrap IntKind.i64 ((j : Int) + 1) = ((j + 1 : Nat) : Int) := by
  unfold big at h
  rw [wrap_i64 (by omega) (by omega)]; omega
theorem getD_get {rows : Rows} {j : Nat} (h : j < rows.length) : rows.getD j [] = rows[j] := by
  rw [List.getD_eq_getElem?_getD, List.getElem?_eq_getElem h]; rfl
instance lawfulBytes : LawfulBEq ByteArray where
  eq_of_beq := by
    intro a b h
    cases a; cases b
    rename_i x y
    have h' : (x == y) = true := h
    rw [eq_of_beq h']
  rfl := by
    intro a
    cases a
    rename_i x
    show (x == x) = true
    exact beq_self_eq_true x
end Go.Den
