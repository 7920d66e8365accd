import Derived.Test.YtlpnccpagikioaaDoorDen27
import Derived.Test.YtlpnccpagikioaaDoorDenI
import Derived.LaidLaws
import Derived.LaidHandle
import Derived.LaidMore
import Derived.Lib.LaidTab
import Derived.Stop.LaidErr
import Derived.MakeChecks
import Derived.WalkKit
import Derived.ProofKit
import Derived.OpenShut
import Derived.JoinedOf
import Derived.ChangeVars
import Derived.ChangeSame
import Derived.Stop.Joined
set_option linter.unusedVariables false
set_option linter.unusedSimpArgs false
set_option linter.unusedSectionVars false
/- Laws whose row lists the library's tables. -/
namespace Go.Den
open Go.ChangeShapes Go.WideShapes Go.ChangeAt Go.RowKit
theorem lifted_of_laid {C : Checked} {os : Os} (started : os.Started) {H : Type} {enc : TypeId × Value → H} {f : FuncId} {fn : Func} {s : ChangeSpec} {laid : List (String × DataW Unit)}
    (own : ownKnob C.prog.godebug = none) (noInit : C.prog.inits.idxOf? f = none) (hfn : C.prog.funcs[f]? = some fn)
    (witness : ∃ (w : World) (tape : Tape) (i : Input), w.os = os ∧ (w.forCall tape i).Shaped C.prog ∧ i.vars = [] ∧ Input.okWide C.prog (w.forCall tape i) .any w.heap.size f i ∧
      ((s.pre enc C.prog fn [] false (w.forCall tape i).memory i.args ∧ laidMetH C.prog laid (w.forCall tape i).memory) ∧ sizedMet enc C.prog fn (OpenSpec.ofChange s) false (w.forCall tape i).memory i.args) ∧ ({} : Assume).holds C.prog (lone (Frame.enter C.prog f i.args .normal) [] (w.forCall tape i)))
    (laidOk : laidOutB C.prog = true) {ts : List TypeId} (hts : fn.params.toList = ts) (hread : ts.all (fun t => C.prog.readableRec t && Nat.blt t C.prog.types.size && (kdsT C.prog 9 t).isSome) = true)
    (hvars : s.vars = []) (hspec : ∀ ds : List (DataW H), ds.length = ts.length → s.fn H ds = { results := [.lit (.bool true)], args := ds })
    {rt : TypeId} (hres : fn.resultTypes = #[rt]) (hrt : C.prog.underlying rt = some .bool)
    (contract : ∀ rows, Fits C.prog ts rows → Contract C.prog f (argsA C.prog ts rows) [] ⟨false, .B true, []⟩)
    (hg : globB C.prog = some 0) (hG : ∀ W, laidMetH C.prog laid W → ∃ ty fr, W.heap[0]? = some (.cells (Go.Lib.pow10Tab.map (Value.int .u64)).toArray ty fr)) :
    ReturnsInHanded {} C os f .any (fun w args => (s.pre enc C.prog fn [] false w args ∧ laidMetH C.prog laid w) ∧ sizedMet enc C.prog fn (OpenSpec.ofChange s) false w args) (s.post enc C.prog fn false true false false) := by
  refine returnsInHanded_of_change_and (X := fun w _ => laidMetH C.prog laid w) (fun _ _ _ hh h => h.of_heap hh) own started noInit hfn witness ?_
  intro W base args ds gs before hval hW _ hsz hL _
  have hW' := hW
  obtain ⟨p, q, hA, hV, rfl, hfz, hnd⟩ := hW
  rw [hvars] at hV
  obtain ⟨rfl, rfl⟩ := trodVars_none hV
  rw [hts] at hA hsz
  have hall := List.all_eq_true.1 hread
  have h1 : ∀ t ∈ ts, (kdsT C.prog 9 t).isSome = true := fun t ht => by have := hall t ht; simp only [Bool.and_eq_true] at this; exact this.2
  have h2 : ∀ t ∈ ts, C.prog.readableRec t = true ∧ t < C.prog.types.size := fun t ht => by have := hall t ht; simp only [Bool.and_eq_true, Nat.blt_eq] at this; exact this.1
  obtain ⟨rows, hfit, hrep⟩ := open_args (loc := fun _ => none) (tk := fun _ => none) (cap := fun _ => 0) (M0 := cellsM W) ts args.toList ds [] (s.plain.varTypes C.prog) p h1
    (fun j t v ht hv => hval j t v (by rw [← Array.getElem?_toList, hts]; exact ht) (by rw [← Array.getElem?_toList]; exact hv)) hA (fun q hq => by simpa using List.all_eq_true.1 hsz q hq)
  have hlen : ds.length = ts.length := by
    exact trodAll_length ts _ _ _ hA
  obtain ⟨ty, fr, hG0⟩ := hG W hL
  have hglob : GlobOk ⟨C.prog, W, ⟨cellsM W, fun _ => none, fun _ => none, fun _ => 0, cellsM W⟩, [], [], []⟩ := fun g h => by
    have h : globB C.prog = some g := h
    rw [hg] at h
    cases h
    refine ⟨⟨ty, fr, hG0⟩, ⟨.int .u64 1, ?_⟩, by simp, by simp⟩
    show W.cell? ⟨0, 0, none⟩ = _
    unfold World.cell?
    show (match W.heap[0]? with | some (.cells c _ _) => if (none : Option Nat).isSome then none else c[0]? | _ => none) = _
    rw [hG0]
    simp [Go.Lib.pow10Tab]
  have hc := (contract rows hfit).2 W ⟨cellsM W, fun _ => none, fun _ => none, fun _ => 0, cellsM W⟩ [] [] args.toList (fun _ => ⟨rfl, fun _ => rfl⟩) (inv_start _ W hglob) hrep
  refine hc.mono ?_
  rintro e W' ⟨x', v, _, rfl, hI, hv⟩
  have hv' : v = .bool true := by
    cases hv with
    | dv _ _ h => cases h; rfl
  subst hv'
  have bel : Below W.heap.size W W' := ⟨hI.os, hI.tape, hI.output, hI.size, fun k hk => hI.old k hk (by simp) (by simp)⟩
  refine ⟨_, rfl, ds, [], _, [], p, [], hW', ?_, ?_, ?_, bel.frame _, fun h => by cases h⟩
  · rw [List.append_nil, hspec ds hlen, hres]
    exact trodAll_mk1 (shut_bool hrt _)
  · rw [List.append_nil, hspec ds hlen, hts]
    exact back_args laidOk bel ts _ _ _ h2 hA
  · rw [List.append_nil, hspec ds hlen, hvars]
    rfl
theorem glob_of_tab {P : Program} {W : World} {nm : String} (hn : P.globalNamed nm = some 0) (h : Go.Lib.TabIs P W nm .u64 Go.Lib.pow10Tab) : ∃ ty fr, W.heap[0]? = some (.cells (Go.Lib.pow10Tab.map (Value.int .u64)).toArray ty fr) := by
  unfold Go.Lib.TabIs World.var? at h
  rw [hn] at h
  simp only [Option.bind_some] at h
  split at h
  · rename_i cs ty fr hb
    cases h
    exact ⟨ty, fr, hb⟩
  · cases h
end Go.Den
