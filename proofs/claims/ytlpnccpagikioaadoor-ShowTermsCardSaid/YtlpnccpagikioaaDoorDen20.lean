import Derived.Test.YtlpnccpagikioaaDoorDen19
set_option linter.unusedVariables false
set_option linter.unusedSimpArgs false
set_option linter.unusedSectionVars false
/- The row of a law, out of the contract of its function. -/
namespace Go.Den
open Go.ChangeShapes Go.WideShapes Go.RowKit

theorem fn_ok {P : Program} {Φ : Orc} (hΦ : OSound P Φ) (hmix : P.follows .mixedOrders = true) {f : FuncId} {fn : Func} (hf : P.funcs[f]? = some fn) (hname : fn.name ≠ "runtime.NumGoroutine") {lv : Live} {n : Nat} {keep : Bool}
    {args : List AV} {ext : List (List AV)} {out : Out} (h : denFn P Φ lv n fn keep args ext some = some out) : Contract P f args ext out :=
  fn_sound hΦ (fun e he id ops K res Q hK s x w a hs hr => by subst he; exact draw_sound hΦ hmix hK hs hr) hf hname h

theorem inv_start (P : Program) (w : World) (hG : GlobOk ⟨P, w, ⟨cellsM w, fun _ => none, fun _ => none, fun _ => 0, cellsM w⟩, [], [], []⟩) : Inv ⟨P, w, ⟨cellsM w, fun _ => none, fun _ => none, fun _ => 0, cellsM w⟩, [], [], []⟩ ⟨cellsM w, fun _ => none, fun _ => none, fun _ => 0, cellsM w⟩ w (zipExt 1000 []) where
  sub _ _ _ h := h
  slot k cs h := by simp [zipExt, lookup] at h
  inj k k' cs cs' b h := by simp [zipExt, lookup] at h
  tok k v sz h := by cases h
  tokslot k a n c sz j cs h := by cases h
  toktok k k' a n c sz a' n' c' sz' h := by cases h
  os := rfl
  tape := rfl
  output := rfl
  size := Nat.le_refl _
  old _ _ _ _ := rfl
  mono := Sub.refl _
  new _ _ _ h := .inl h
  ext _ _ := rfl
  more := ⟨fun k b cs h => by simp [zipExt, lookup] at h, fun _ _ => rfl, rfl, Nat.le_refl _⟩
  glob := hG
  low b o v hv := by
    have hv' : w.cell? ⟨b, o, none⟩ = some v := hv
    unfold World.cell? at hv'
    split at hv'
    · rename_i hb; exact (Array.getElem?_eq_some_iff.1 hb).1
    · simp at hv'

theorem trodAll_length {H : Type} {enc : TypeId × Value → H} {P : Program} {w : World} {spare : Nat → Bool} {held : Bool} : ∀ (ts : List TypeId) (vs : List Value) (ds : List (DataW H)) (p : List MemPlace), DataW.TrodAll enc P w 0 spare held ts vs ds p → ds.length = ts.length
  | [], vs, ds, p, h => by obtain ⟨_, rfl, _⟩ := trodAll_nil h; rfl
  | t :: ts, vs, ds, p, h => by
    obtain ⟨v, vs', d, ds', p', q', rfl, rfl, rfl, h1, h2⟩ := trodAll_cons h
    simp [trodAll_length ts vs' ds' q' h2]

theorem lifted_of {C : Checked} {os : Os} (started : os.Started) {H : Type} {enc : TypeId × Value → H} {f : FuncId} {fn : Func} {s : ChangeSpec}
    (own : ownKnob C.prog.godebug = none) (noInit : C.prog.inits.idxOf? f = none) (hfn : C.prog.funcs[f]? = some fn)
    (witness : ∃ (w : World) (tape : Tape) (i : Input), w.os = os ∧ (w.forCall tape i).Shaped C.prog ∧ i.vars = [] ∧ Input.okWide C.prog (w.forCall tape i) .any w.heap.size f i ∧
      s.pre6 enc C.prog fn [] false (w.forCall tape i).memory i.args ∧ ({} : Assume).holds C.prog (lone (Frame.enter C.prog f i.args .normal) [] (w.forCall tape i)))
    (laid : laidOutB C.prog = true) {ts : List TypeId} (hts : fn.params.toList = ts) (hread : ts.all (fun t => C.prog.readableRec t && Nat.blt t C.prog.types.size && (kdsT C.prog 9 t).isSome) = true)
    (hvars : s.vars = []) (hspec : ∀ ds : List (DataW H), ds.length = ts.length → s.fn H ds = { results := [.lit (.bool true)], args := ds })
    {rt : TypeId} (hres : fn.resultTypes = #[rt]) (hrt : C.prog.underlying rt = some .bool)
    (contract : ∀ rows, Fits C.prog ts rows → Contract C.prog f (argsA C.prog ts rows) [] ⟨false, .B true, []⟩) (hg : globB C.prog = none) :
    ReturnsInHanded {} C os f .any (s.pre6 enc C.prog fn [] false) (s.post enc C.prog fn false true false false) := by
  refine returnsInHanded_of_change_sized own started noInit hfn witness ?_
  intro W base args ds gs before hval hW _ hsz _
  have hW' := hW
  obtain ⟨p, q, hA, hV, rfl, hfz, hnd⟩ := hW
  rw [hvars] at hV
  obtain ⟨rfl, rfl⟩ := trodVars_none hV
  rw [hts] at hA hsz
  have hall := List.all_eq_true.1 hread
  have h1 : ∀ t ∈ ts, (kdsT C.prog 9 t).isSome = true := fun t ht => by have := hall t ht; simp only [Bool.and_eq_true] at this; exact this.2
  have h2 : ∀ t ∈ ts, C.prog.readableRec t = true ∧ t < C.prog.types.size := fun t ht => by have := hall t ht; simp only [Bool.and_eq_true, Nat.blt_eq] at this; exact this.1
  obtain ⟨rows, hfit, hrep⟩ := open_args (loc := fun _ => none) (tk := fun _ => none) (cap := fun _ => 0) (M0 := cellsM W) ts args.toList ds [] (s.plain.varTypes C.prog) p h1
    (fun j t v ht hv => hval j t v (by rw [← Array.getElem?_toList, hts]; exact ht) (by rw [← Array.getElem?_toList]; exact hv)) hA (fun q hq => by simpa using List.all_eq_true.1 hsz q hq)
  have hlen : ds.length = ts.length := by
    exact trodAll_length ts _ _ _ hA
  have hc := (contract rows hfit).2 W ⟨cellsM W, fun _ => none, fun _ => none, fun _ => 0, cellsM W⟩ [] [] args.toList (fun _ => ⟨rfl, fun _ => rfl⟩) (inv_start _ W (fun g h => by rw [hg] at h; cases h)) hrep
  refine hc.mono ?_
  rintro e W' ⟨x', v, _, rfl, hI, hv⟩
  have hv' : v = .bool true := by
    cases hv with
    | dv _ _ h => cases h; rfl
  subst hv'
  have bel : Below W.heap.size W W' := ⟨hI.os, hI.tape, hI.output, hI.size, fun k hk => hI.old k hk (by simp) (by simp)⟩
  refine ⟨_, rfl, ds, [], _, [], p, [], hW', ?_, ?_, ?_, bel.frame _, fun h => by cases h⟩
  · rw [List.append_nil, hspec ds hlen, hres]
    exact trodAll_mk1 (shut_bool hrt _)
  · rw [List.append_nil, hspec ds hlen, hts]
    exact back_args laid bel ts _ _ _ h2 hA
  · rw [List.append_nil, hspec ds hlen, hvars]
    rfl
end Go.Den
