import Derived.Test.YtlpnccpagikioaaDoorDen27
import Derived.Sort.Grow
import Derived.Shelf.Strconv.Itoa3
set_option linter.unusedVariables false
set_option linter.unusedSimpArgs false
set_option linter.unusedSectionVars false
/- A function of the library that reads its table of powers, and lays new blocks: a contract out of the kit's. -/
namespace Go.Den
open Go.Sort
theorem Inv.grown {P : Program} {w w' : World} {x : X} {E L : List Nat} (hI : Inv ⟨P, w, x, E, [], L⟩ x w (zipExt 1000 [])) (htk : ∀ k, x.tk k = none) (ho : w'.os = w.os) (ht : w'.tape = w.tape) (hu : w'.output = w.output) (hs : w.heap.size ≤ w'.heap.size)
    (hh : ∀ b, b < w.heap.size → w'.heap[b]? = w.heap[b]?) (hd : w.drawn ≤ w'.drawn) : Inv ⟨P, w, x, E, [], L⟩ x w' (zipExt 1000 []) where
  sub b o v hv := by rw [World.cell?_of_block (w := w) (hh b (hI.lt hv))]; exact hI.sub b o v hv
  slot k cs hk := by simp [zipExt, lookup] at hk
  inj k k' cs cs' b hk := by simp [zipExt, lookup] at hk
  tok k v sz hk := by rw [htk] at hk; cases hk
  tokslot k a n c sz j cs hk := by rw [htk] at hk; cases hk
  toktok k k' a n c sz a' n' c' sz' hk := by rw [htk] at hk; cases hk
  os := ho
  tape := ht
  output := hu
  size := hs
  old b hb _ _ := hh b hb
  mono := Sub.refl _
  new b o v hv := .inl hv
  ext k _ := rfl
  low := hI.low
  more := ⟨fun k b cs hk => by simp [zipExt, lookup] at hk, fun _ _ => rfl, hI.more.M0, hd⟩
  glob := hI.glob
theorem itoa_contract {P : Program} {f : FuncId} {nm : String} (hf : ∃ fn, P.funcs[f]? = some fn ∧ fn.body.isSome = true ∧ fn.name ≠ "runtime.NumGoroutine") (hg : globB P = some 0) (hn : P.globalNamed nm = some 0) (j : Int)
    (hc : ∀ w, Go.Lib.TabIs P w nm .u64 Go.Lib.pow10Tab → Calls P f #[.int .i64 j] w fun e w' => e = .returned (.string ⟨(Go.Lib.itoa j).toArray⟩) ∧ ∃ k os, w' = grow (w.drewN k) os) :
    Contract P f [.dv (.val (.int .i64 j))] [] ⟨false, .dv (.val (.string ⟨(Go.Lib.itoa j).toArray⟩)), []⟩ := by
  refine ⟨hf, fun w x E L vs htok hI hR => ?_⟩
  obtain ⟨_, htk⟩ := htok rfl
  cases hR with | cons _ v1 _ vs1 h1 h2 =>
  cases h2
  cases h1 with | dv _ _ hd =>
  cases hd
  obtain ⟨⟨ty, fr, g1⟩, _, _, _⟩ := hI.glob 0 hg
  have htab : Go.Lib.TabIs P w nm .u64 Go.Lib.pow10Tab := by
    unfold Go.Lib.TabIs World.var?
    rw [hn]
    show (match w.heap[0]? with | some (.cells cs _ _) => some cs | _ => none) = _
    rw [g1]
  refine (hc w htab).mono ?_
  rintro en w' ⟨rfl, k, os, rfl⟩
  refine ⟨x, _, rfl, rfl, ?_, .dv _ _ (.val _ rfl)⟩
  refine hI.grown htk rfl rfl rfl (by rw [size_grow]; exact Nat.le_add_right _ _) (fun b hb => heap_grow_old _ _ hb) ?_
  show w.drawn ≤ w.drawn + k
  omega
end Go.Den
