import Derived.Test.YtlpnccpagikioaaDoorDen21
set_option linter.unusedVariables false
set_option linter.unusedSimpArgs false
set_option linter.unusedSectionVars false
/- Specifications as oracles. -/
namespace Go.Den
theorem bareLL_get : ∀ {l : List (List AV)} {i : Nat} {cs : List AV}, (bareLL l)[i]? = some cs → ∃ c0, l[i]? = some c0 ∧ cs = AV.bareL c0
  | [], i, cs, h => by simp [bareLL] at h
  | c :: l, 0, cs, h => by simp [bareLL] at h; exact ⟨c, rfl, h.symm⟩
  | c :: l, i + 1, cs, h => by simp only [bareLL, List.getElem?_cons_succ] at h; simpa using bareLL_get h
theorem bareLL_length : ∀ l : List (List AV), (bareLL l).length = l.length
  | [] => rfl
  | c :: l => by simp [bareLL, bareLL_length l]
theorem contract_bareE {P : Program} {f : FuncId} {args : List AV} {ext : List (List AV)} {out : Out} (h : Contract P f args (bareLL ext) out) : Contract P f args ext out := by
  refine ⟨h.1, fun w x E L vs htk hI hr => ?_⟩
  have hI' : Inv ⟨P, w, x, E, [], L⟩ { x with tk := x.tk } w (zipExt 1000 (bareLL ext)) := by
    refine hI.bare x.tk ?_ hI.tok hI.tokslot hI.toktok
    intro k cs hk
    rw [lookup_zipExt] at hk ⊢
    split at hk
    · rename_i hle
      rw [if_pos hle]
      exact bareLL_get hk
    · cases hk
  have := h.2 w x E L vs htk hI' hr
  rw [bareLL_length] at this
  exact this
def Spec1Ok (P : Program) (f : FuncId) (g : Spec1) : Prop := ∀ R args ext k r, g R args ext k = some r → ∃ out, Contract P f args ext out ∧ k out = some r ∧ ∀ R' k', g R' args ext k' = k' out
def SpecOk (P : Program) (σ : Spec) : Prop := ∀ f, Spec1Ok P f (fun R => σ R f)
theorem SpecOk.pick {P : Program} {σ : Spec} (h : SpecOk P σ) (hs : List Nat) : Pick (σ.orc hs) := by
  intro R f args ext k r hr
  obtain ⟨out, _, h2, h3⟩ := h f R _ _ k r hr
  exact ⟨out, h2, fun R' k' => h3 R' k'⟩
theorem SpecOk.sound {P : Program} {σ : Spec} (h : SpecOk P σ) (hs : List Nat) : OSound P (σ.orc hs) := by
  intro R f args ext k r hr
  obtain ⟨out, h1, h2, _⟩ := h f R _ _ k r hr
  exact ⟨out, contract_bareE h1, h2⟩
theorem SpecOk.none (P : Program) : SpecOk P Spec.none := fun _ _ _ _ _ _ h => by cases h
theorem sp_ok {P : Program} {f0 : FuncId} {g : Spec1} {τ : Spec} (h : Spec1Ok P f0 g) (h' : SpecOk P τ) : SpecOk P (sp f0 g τ) := by
  intro f R args ext k r ho
  simp only [sp] at ho ⊢
  split at ho
  · rename_i hf
    have hf' := beq_eq.1 hf
    subst hf'
    obtain ⟨out, h1, h2, h3⟩ := h R args ext k r ho
    exact ⟨out, h1, h2, fun R' k' => h3 R' k'⟩
  · rename_i hf
    obtain ⟨out, h1, h2, h3⟩ := h' f R args ext k r ho
    exact ⟨out, h1, h2, fun R' k' => h3 R' k'⟩
theorem with_ok {P : Program} {σ : Spec} {T : Tab} (hmix : P.follows .mixedOrders = true) (hT : Tab.named P T = true) (h : SpecOk P σ) (n d : Nat) (hs : List Nat) : OSound P (with_ P σ T n d hs) :=
  (inl_ok hmix hT (h.pick []) (h.sound []) d hs).2
/-- What no values stand for. -/
theorem contract_vac {P : Program} {f : FuncId} {fn : Func} (hf : P.funcs[f]? = some fn) (hb : fn.body.isSome = true) (hn : fn.name ≠ "runtime.NumGoroutine") {args : List AV} {ext : List (List AV)} {out : Out} (h : ∀ x vs, RepL x args vs → False) : Contract P f args ext out :=
  ⟨⟨fn, hf, hb, hn⟩, fun _ x _ _ vs _ _ hr => (h x vs hr).elim⟩
theorem rep_nil {x : X} {ks : List Kd} {rows : Rows} {r : Right} {v : Value} (h : Rep x (.sl true ks rows r) v) : rows = [] := by
  cases h with
  | sl _ _ _ _ _ hd _ => rcases hd.rows with ⟨_, h, _⟩ | ⟨_, _, h, _⟩; exact h; cases h
end Go.Den
