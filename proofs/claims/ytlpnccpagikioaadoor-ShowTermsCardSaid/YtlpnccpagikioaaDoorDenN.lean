import Derived.Test.YtlpnccpagikioaaDoorDenM
import Derived.Test.YtlpnccpagikioaaDoorDen25
import Derived.Test.YtlpnccpagikioaaDoorDen27
import Derived.KernelRfl
set_option linter.unusedVariables false
set_option linter.unusedSimpArgs false
set_option linter.unusedSectionVars false
/- The interpreter over a memo says what the interpreter says. -/
namespace Go.Den
theorem dm_opE_eq (P : Program) (Φ : Orc) {R : Type} : @DM.opE (Memo.std P) Φ R = @opE P Φ R := by kernel_rfl
theorem dm_regE_eq (P : Program) (Φ : Orc) {R : Type} : @DM.regE (Memo.std P) Φ R = @regE P Φ R := by kernel_rfl
theorem dm_regA_eq (P : Program) (Φ : Orc) {R : Type} : @DM.regA (Memo.std P) Φ R = @regA P Φ R := by kernel_rfl
theorem dm_den_eq (P : Program) (Φ : Orc) {R : Type} : @DM.den (Memo.std P) Φ R = @den P Φ R := by kernel_rfl
theorem dm_denFn_eq (P : Program) (Φ : Orc) {R : Type} : @DM.denFn (Memo.std P) Φ R = @denFn P Φ R := by kernel_rfl
theorem dm_denFnD_eq (P : Program) (Φ : Orc) {R : Type} : @DM.denFnD (Memo.std P) Φ R = @denFnD P Φ R := by kernel_rfl

/-! memos -/
inductive BT (α : Type) where
  | nil
  | one (k : Nat) (v : α)
  | node (k : Nat) (l r : BT α)
def BT.get {α : Type} : BT α → Nat → Option α
  | .nil, _ => none
  | .one k v, t => match Nat.beq t k with | true => some v | false => none
  | .node k l r, t => match Nat.ble k t with | true => r.get t | false => l.get t
def BT.toList {α : Type} : BT α → List (Nat × α)
  | .nil => []
  | .one k v => [(k, v)]
  | .node _ l r => l.toList ++ r.toList
theorem BT.get_mem {α : Type} : ∀ {b : BT α} {t : Nat} {v : α}, b.get t = some v → (t, v) ∈ b.toList
  | .nil, t, v, h => by cases h
  | .one k u, t, v, h => by
    simp only [BT.get] at h
    split at h
    · rename_i hk; cases h; simp only [beq_eq] at hk; subst hk; exact List.mem_cons_self
    · cases h
  | .node k l r, t, v, h => by
    simp only [BT.get] at h
    split at h
    · exact List.mem_append_right _ (BT.get_mem h)
    · exact List.mem_append_left _ (BT.get_mem h)
/-- A function, with a table ahead of it. -/
def memo {α : Type} (b : BT α) (f : Nat → α) (t : Nat) : α :=
  match b.get t with
  | some v => v
  | none => f t
theorem memo_eq {α : Type} {b : BT α} {f : Nat → α} (h : b.toList.map (fun p => f p.1) = b.toList.map (fun p => p.2)) : memo b f = f := by
  funext t
  unfold memo
  cases hg : b.get t with
  | none => rfl
  | some v =>
    have hm := BT.get_mem hg
    have : ∀ p ∈ b.toList, f p.1 = p.2 := by
      intro p hp
      obtain ⟨i, hi, rfl⟩ := List.getElem_of_mem hp
      have h1 := congrArg (fun l => l[i]?) h
      simp only [List.getElem?_map, List.getElem?_eq_getElem hi, Option.map_some, Option.some.injEq] at h1
      exact h1
    exact (this _ hm).symm
theorem auto_okM {P : Program} {M : Memo} (hM : M = Memo.std P) {Φ : Orc} (hΦ : OSound P Φ) (hp : Pick Φ) (hmix : P.follows .mixedOrders = true) {f : FuncId} {fn : Func} (hf : P.funcs[f]? = some fn) (hname : fn.name ≠ "runtime.NumGoroutine") {lv : Live} {n : Nat} {keep : Bool}
    {args : List AV} {ext : List (List AV)} {o : OSh} {y : o.ty} (h : DM.denFn M Φ lv n fn keep args ext o.chk = some y) : Contract P f args ext (o.enc y) := by
  subst hM
  rw [dm_denFn_eq] at h
  exact auto_ok hΦ hp hmix hf hname h
theorem autoD_okM {P : Program} {M : Memo} (hM : M = Memo.std P) {Φ : Orc} (hΦ : OSound P Φ) (hmix : P.follows .mixedOrders = true) {f : FuncId} {fn : Func} (hf : P.funcs[f]? = some fn) (hname : fn.name ≠ "runtime.NumGoroutine") {gid : FuncId} {g : Func} (hg : P.funcs[gid]? = some g)
    (hgb : g.body.isSome = true) (hgn : g.name ≠ "runtime.NumGoroutine") {lv lvC : Live} {n : Nat} {args : List AV} {o : OSh} {y : o.ty} (h : DM.denFnD M Φ lv n fn g gid lvC args o.chk = some y) : Contract P f args [] (o.enc y) := by
  subst hM
  rw [dm_denFnD_eq] at h
  exact autoD_ok hΦ hmix hf hname hg hgb hgn h
end Go.Den
