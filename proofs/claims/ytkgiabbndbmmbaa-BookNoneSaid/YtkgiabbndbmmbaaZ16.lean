import Derived.Test.YtkgiabbndbmmbaaZ14
import Derived.Test.YtkgiabbndbmmbaaZ05
import Derived.Test.YtkgiabbndbmmbaaZ15
set_option linter.unusedVariables false
set_option linter.unusedSimpArgs false
set_option linter.unusedSectionVars false
namespace Go.Den
open Go.Proofs Go.Sort
def ordR (r q : Row) : Int := ordF (fcAt r) (fcAt q)
theorem ordR_ord : IsOrd ordR := ordF_ord.comap fcAt
theorem ordR_swo (rows : Rows) : SWO (ltOf (cmpAt ordR rows)) := (ordR_ord.comap (rowAt rows)).swo
def argsOk (n : Nat) : Rows → Bool
 |[] => true
 |r :: l => decide ((Row.R r 3).length < big) && decide ((Row.R r 3).length < n) && argsOk n l
theorem argsOk_mem {n : Nat} : ∀ {l : Rows}, argsOk n l = true → ∀ r ∈ l, (Row.R r 3).length < big ∧ (Row.R r 3).length < n
 |q :: l, h, r, hr => by
  unfold argsOk at h
  simp only [Bool.and_eq_true, decide_eq_true_eq] at h
  rcases List.mem_cons.1 hr with rfl | hr
  ·exact h.1
  ·exact argsOk_mem h.2 r hr
theorem argsOk_of {n : Nat} : ∀ {l : Rows}, (∀ r ∈ l, (Row.R r 3).length < big ∧ (Row.R r 3).length < n) → argsOk n l = true
 |[], _ => rfl
 |q :: l, h => by
  unfold argsOk
  have h1 := h q List.mem_cons_self
  rw [argsOk_of (fun r hr => h r (List.mem_cons_of_mem _ hr))]
  simp [h1.1, h1.2]
def slices_SortFunc_mz_fact_Order_v (n m0 m1 : Nat) (r2 : Rows) : Option (Unit × ((Rows × Unit) × Unit)) :=
 match Nat.beq m0 r2.length && !r2.isEmpty && Nat.blt m0 4611686018427387904 && Nat.blt 10 n && argsOk n r2 with
 |true => some ((), ((sortR ordR r2, ()), ()))
 |false => none
def slices_SortFunc_fact_Order_v (n : Nat) (b0 : Bool) (r1 : Rows) : Option (Unit × Unit) :=
 match r1.isEmpty with
 |true => some ((), ())
 |false => none
theorem sort_func : ∃ fn, Try.prog.funcs[sortLays_ren.f 6]? = some fn ∧ fn.body.isSome = true ∧ fn.name ≠ "runtime.NumGoroutine" := ⟨Try.f58, Try.func58, by kernel_rfl, by decide⟩
theorem slices_SortFunc_mz_fact_Order_c (n m0 m1 : Nat) (r2 : Rows) (y : Unit × ((Rows × Unit) × Unit)) (h : slices_SortFunc_mz_fact_Order_v n m0 m1 r2 = some y) :
  Contract Try.prog 58 [AV.ms 1000 [Kd.s, Kd.s, Kd.s, Kd.sl [Kd.b, Kd.i IntKind.i64, Kd.s]] 0 m0 m1, AV.fn 40 []] [[AV.arr [Kd.s, Kd.s, Kd.s, Kd.sl [Kd.b, Kd.i IntKind.i64, Kd.s]] r2]] (OSh.enc (OSh.plain (.tup []) [[.arr [Kd.s, Kd.s, Kd.s, Kd.sl [Kd.b, Kd.i IntKind.i64, Kd.s]]]]) y) := by
 unfold slices_SortFunc_mz_fact_Order_v at h
 split at h
 ·rename_i hc
  cases h
  simp only [Bool.and_eq_true, Nat.blt_eq] at hc
  obtain ⟨⟨⟨⟨h1, h2⟩, h3⟩, h4⟩, h5⟩ := hc
  have h1 := Nat.eq_of_beq_eq_true h1
  subst h1
  have hne : r2 ≠ [] := by rintro rfl; cases h2
  have hm : ∀ i, rowAt r2 i ∈ r2 := fun i => by
   have hl := rowAt_lt hne i
   unfold rowAt
   rw [List.getD_eq_getElem?_getD, List.getElem?_eq_getElem hl]
   exact List.getElem_mem hl
  have key := sortFunc_contract sortLays [Kd.s, Kd.s, Kd.s, Kd.sl [Kd.b, Kd.i IntKind.i64, Kd.s]] Try.isAgg38 Try.sizeOf38 sort_func 40 (enters_of Try.func40 (by kernel_rfl) rfl) ordR r2 hne (ordR_swo r2) h3
   (fun i j => by
    have hi := argsOk_mem h5 _ (hm i)
    have hj := argsOk_mem h5 _ (hm j)
    exact z42_c n (Row.S (rowAt r2 i) 0) (Row.S (rowAt r2 i) 1) (Row.S (rowAt r2 i) 2) (Row.N (rowAt r2 i) 3) (Row.R (rowAt r2 i) 3) (Row.S (rowAt r2 j) 0) (Row.S (rowAt r2 j) 1) (Row.S (rowAt r2 j) 2) (Row.N (rowAt r2 j) 3) (Row.R (rowAt r2 j) 3) _ (z42_q hi.1 hi.2 h4)) m1
  exact key
 ·cases h
theorem slices_SortFunc_fact_Order_c (n : Nat) (b0 : Bool) (r1 : Rows) (y : Unit × Unit) (h : slices_SortFunc_fact_Order_v n b0 r1 = some y) :
  Contract Try.prog 58 [AV.sl b0 [Kd.s, Kd.s, Kd.s, Kd.sl [Kd.b, Kd.i IntKind.i64, Kd.s]] r1 Right.no, AV.fn 40 []] [] (OSh.enc (OSh.plain (.tup []) []) y) := by
 unfold slices_SortFunc_fact_Order_v at h
 split at h
 ·rename_i hc
  cases h
  have h1 : r1 = [] := by cases r1 with | nil => rfl | cons _ _ => cases hc
  subst h1
  exact sortFunc_none sortLays _ sort_func b0 40
 ·cases h
end Go.Den
