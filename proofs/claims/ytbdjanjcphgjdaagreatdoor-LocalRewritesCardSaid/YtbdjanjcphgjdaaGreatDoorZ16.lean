import Derived.Test.YtbdjanjcphgjdaaGreatDoorZ15
set_option linter.unusedVariables false
set_option linter.unusedSimpArgs false
set_option linter.unusedSectionVars false
namespace Go.Den
open Go.Proofs
def refArgs : Nat → Rows → ByteArray → Option ByteArray
 |_, [], acc => some (acc ++ ByteArray.mk #[41])
 |q, r :: l, acc => match term1 (tmAt r 0) with
  |some s => refArgs (q + 1) l (bif decide (0 < q) then acc ++ comma ++ s else acc ++ s)
  |none => none
def atomR (pred : ByteArray) (args : Rows) : Option ByteArray := bif wordS pred then bif decide (args.length > 4) then none else refArgs 0 args (pred ++ ByteArray.mk #[40]) else none
def maybeR (ahead : ByteArray) (a : Tm) (behind : ByteArray) : Option ByteArray := bif nilT a then some noB else match term1 a with | some s => some (ahead ++ s ++ behind) | none => none
def litR (l : Row) : Option ByteArray :=
 match maybeR noB (tmAt l 0) bSays, atomR (Row.S l 4) (Row.R l 5), maybeR bAt (tmAt l 6) noB with
 |some x, some y, some z => some (x ++ y ++ z)
 |_, _, _ => none
def bodyR : Nat → Rows → ByteArray → Option ByteArray
 |_, [], acc => some (acc ++ ByteArray.mk #[46])
 |q, l :: ls, acc => match litR l with
  |some s => bodyR (q + 1) ls (bif decide (0 < q) then acc ++ comma ++ s else acc ++ s)
  |none => none
def headR (r : Row) : Option ByteArray :=
 match term1 (tmAt r 0), atomR (Row.S r 4) (Row.R r 5), maybeR bTo (tmAt r 6) noB with
 |some h, some a, some m => some (h ++ bColon ++ a ++ m ++ bIf)
 |_, _, _ => none
def ruleR (r : Row) : Option ByteArray :=
 bif decide ((Row.R r 10).length < 1) then none else bif decide ((Row.R r 10).length > 4) then none else
 match headR r with
 |some s => bodyR 0 (Row.R r 10) s
 |none => none
theorem emp_append (a : ByteArray) : noB ++ a = a := by
 have h : (noB ++ a).data = a.data := by rw [ByteArray.data_append]; simp
 cases a; cases h' : (noB ++ _); simp_all
theorem append_emp (a : ByteArray) : a ++ noB = a := by
 have h : (a ++ noB).data = a.data := by rw [ByteArray.data_append]; simp
 cases a; cases h' : (_ ++ noB); simp_all
theorem tx1_some {t : Tm} {s : ByteArray} (h : term1 t = some s) : tx1 t = s := by unfold tx1; rw [h]; rfl
theorem pargs_bad : ∀ (l : Rows) (q : Nat) (t : ByteArray), (pargs q l t true).2 = true
 |[], q, t => rfl
 |r :: l, q, t => by unfold pargs; exact pargs_bad l (q + 1) _
theorem pargs_ref : ∀ (l : Rows) (q : Nat) (pre acc : ByteArray), match refArgs q l acc with | some s => pargs q l (pre ++ acc) false = (pre ++ s, false) | none => (pargs q l (pre ++ acc) false).2 = true
 |[], q, pre, acc => by
  show (pre ++ acc ++ ByteArray.mk #[41], false) = (pre ++ (acc ++ ByteArray.mk #[41]), false)
  rw [ByteArray.append_assoc]
 |r :: l, q, pre, acc => by
  unfold refArgs pargs
  cases ht : term1 (tmAt r 0) with
  |none =>
   simp only [Option.isNone_none, cond_false]
   exact pargs_bad l (q + 1) _
  |some s =>
   simp only [cond_false, Option.isNone_some, tx1_some ht, emp_append]
   cases hq : decide (0 < q) with
   |true =>
    have := pargs_ref l (q + 1) pre (acc ++ comma ++ s)
    simp only [cond_true, ← ByteArray.append_assoc] at this ⊢
    exact this
   |false =>
    have := pargs_ref l (q + 1) pre (acc ++ s)
    simp only [cond_false, ← ByteArray.append_assoc] at this ⊢
    exact this
theorem patom_bad {pred t : ByteArray} {args : Rows} : (patom pred args t true).2 = true := pargs_bad _ _ _
theorem patom_ref {pred t : ByteArray} {args : Rows} : match atomR pred args with | some s => patom pred args t false = (t ++ s, false) | none => (patom pred args t false).2 = true := by
 unfold atomR patom
 cases wordS pred with
 |false => simp only [Bool.not_false, Bool.true_or, Bool.or_true, cond_false]; exact pargs_bad _ _ _
 |true =>
  cases decide (args.length > 4) with
  |true => exact pargs_bad _ _ _
  |false => exact pargs_ref args 0 t (pred ++ ByteArray.mk #[40])
theorem pmaybe_bad {a b t : ByteArray} {x : Tm} : (pmaybe a x b t true).2 = true := by
 unfold pmaybe; cases nilT x <;> rfl
theorem pmaybe_ref {a b t : ByteArray} {x : Tm} : match maybeR a x b with | some s => pmaybe a x b t false = (t ++ s, false) | none => (pmaybe a x b t false).2 = true := by
 unfold maybeR pmaybe
 cases nilT x with
 |true => simp only [cond_true, append_emp]
 |false =>
  simp only [cond_false]
  cases ht : term1 x with
  |none => rfl
  |some s => simp only [tx1_some ht, Option.isNone_some, Bool.or_self, ByteArray.append_assoc]
theorem plit_ref {l : Row} {t : ByteArray} : match litR l with | some s => plit l t false = (t ++ s, false) | none => (plit l t false).2 = true := by
 unfold litR plit
 have h1 := pmaybe_ref (a := noB) (b := bSays) (t := t) (x := tmAt l 0)
 cases e1 : maybeR noB (tmAt l 0) bSays with
 |none =>
  rw [e1] at h1
  simp only at h1 ⊢
  rw [h1, patom_bad, pmaybe_bad]
 |some x =>
  rw [e1] at h1
  simp only at h1 ⊢
  rw [h1]
  have h2 := patom_ref (pred := Row.S l 4) (args := Row.R l 5) (t := t ++ x)
  cases e2 : atomR (Row.S l 4) (Row.R l 5) with
  |none =>
   rw [e2] at h2
   simp only at h2 ⊢
   rw [h2, pmaybe_bad]
  |some y =>
   rw [e2] at h2
   simp only at h2 ⊢
   rw [h2]
   have h3 := pmaybe_ref (a := bAt) (b := noB) (t := t ++ x ++ y) (x := tmAt l 6)
   cases e3 : maybeR bAt (tmAt l 6) noB with
   |none => rw [e3] at h3; exact h3
   |some z =>
    rw [e3] at h3
    simp only at h3 ⊢
    rw [h3]; simp only [ByteArray.append_assoc]
theorem pbody_bad : ∀ (l : Rows) (q : Nat) (t : ByteArray), pbody q l t true = none
 |[], q, t => rfl
 |l :: ls, q, t => rfl
theorem atomR_long {pred : ByteArray} {args : Rows} (h : args.length > 4) : atomR pred args = none := by
 unfold atomR
 rw [decide_eq_true h]
 cases wordS pred <;> rfl
theorem pbody_ref : ∀ (l : Rows) (q : Nat) (t : ByteArray), pbody q l t false = bodyR q l t
 |[], q, t => rfl
 |l :: ls, q, t => by
  unfold pbody bodyR
  simp only [cond_false]
  have h := plit_ref (l := l) (t := bif decide (0 < q) then t ++ comma else t)
  by_cases h4 : (Row.R l 5).length > 4
  ·have : litR l = none := by
    unfold litR
    rw [atomR_long h4]
    cases maybeR noB (tmAt l 0) bSays <;> rfl
   rw [this, decide_eq_true h4]; rfl
  ·rw [decide_eq_false h4]
   simp only [cond_false]
   cases e : litR l with
   |none =>
    rw [e] at h
    simp only at h ⊢
    rw [h, pbody_bad]
   |some s =>
    rw [e] at h
    simp only at h ⊢
    rw [h, pbody_ref]
    cases decide (0 < q) <;> simp only [cond_true, cond_false, ByteArray.append_assoc]
theorem prule_ref (r : Row) : prule r = ruleR r := by
 unfold prule ruleR headR
 cases decide ((Row.R r 10).length < 1) with
 |true => rfl
 |false =>
 cases decide ((Row.R r 10).length > 4) with
 |true => rfl
 |false =>
 simp only [cond_false]
 by_cases h4 : (Row.R r 5).length > 4
 ·rw [decide_eq_true h4, atomR_long h4]
  cases term1 (tmAt r 0) <;> rfl
 ·rw [decide_eq_false h4]
  simp only [cond_false]
  cases e0 : term1 (tmAt r 0) with
  |none =>
   simp only [Option.isNone_none]
   rw [patom_bad, pmaybe_bad, pbody_bad]
  |some h =>
   simp only [Option.isNone_some, tx1_some e0, emp_append]
   have h2 := patom_ref (pred := Row.S r 4) (args := Row.R r 5) (t := h ++ bColon)
   cases e2 : atomR (Row.S r 4) (Row.R r 5) with
   |none =>
    rw [e2] at h2
    simp only at h2 ⊢
    rw [h2, pmaybe_bad, pbody_bad]
   |some y =>
    rw [e2] at h2
    simp only at h2 ⊢
    rw [h2]
    have h3 := pmaybe_ref (a := bTo) (b := noB) (t := h ++ bColon ++ y) (x := tmAt r 6)
    cases e3 : maybeR bTo (tmAt r 6) noB with
    |none =>
     rw [e3] at h3
     simp only at h3 ⊢
     rw [h3, pbody_bad]
    |some z =>
     rw [e3] at h3
     simp only at h3 ⊢
     rw [h3, pbody_ref]
end Go.Den
