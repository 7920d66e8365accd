import Derived.Test.YtlpnccpagikioaaDoorDen1
import Derived.Orders
import Derived.Below
import Derived.Lib.ItoaNum
set_option linter.unusedVariables false
set_option linter.unusedSimpArgs false
set_option linter.unusedSectionVars false
/- What holds of a world while a body runs; calls. -/
namespace Go.Den
open Go.RowKit (Below)

structure Env where
  P : Program
  w0 : World
  x0 : X
  E : List Nat          -- the blocks of the variables that were handed over
  D : List Deferred := []   -- what was deferred
  L : List Nat := []    -- the blocks of the slices that were lent with their rights

/-- A token's slice: where it has spare room, that is the call's own, and nobody reads it. -/
def TokOk (e : Env) (x : X) (w : World) (v : Value) (sz : Nat) : Prop :=
  ∀ a n c, v = .slice (some a) n c → 0 < c → ∃ cur ty, a.off = 0 ∧ a.spot = none ∧ (e.w0.heap.size ≤ a.block ∨ a.block ∈ e.L) ∧ w.heap[a.block]? = some (.cells cur ty (0, 0)) ∧ c ≤ maxLen ∧ c * sz ≤ cur.size ∧
    ∀ j, n * sz ≤ j → x.M a.block j = none

structure More (e : Env) (x : X) (w : World) (m : Mem) : Prop where
  room : ∀ (k b : Nat) (cs : List AV), lookup m k = some cs → x.loc k = some b → ∃ (arr : Array Value) (ty : TypeId), w.heap[b]? = some (.cells arr ty (0, 0)) ∧ x.cap k ≤ arr.size
  ext : ∀ k, 1000 ≤ k → x.cap k = e.x0.cap k
  M0 : x.M0 = e.x0.M
  drawn : e.w0.drawn ≤ w.drawn

/-- The variable of the library's that a number's digits are told by. -/
def globB (P : Program) : Option Nat := match P.globals.size with | 3 => some 0 | _ => none
def GlobOk (e : Env) : Prop := ∀ g, globB e.P = some g → (∃ ty fr, e.w0.heap[g]? = some (.cells (Go.Lib.pow10Tab.map (Value.int .u64)).toArray ty fr)) ∧ (∃ v, e.x0.M g 0 = some v) ∧ g ∉ e.E ∧ g ∉ e.L

/-- Steps that leave slots' blocks as great as they were. -/
theorem More.step {e : Env} {x x' : X} {w w' : World} {m m' : Mem} (h : More e x w m)
    (hm : ∀ (k b : Nat) (cs : List AV), lookup m' k = some cs → x'.loc k = some b → ∃ cs0, lookup m k = some cs0 ∧ x.loc k = some b ∧ x'.cap k = x.cap k)
    (hw : ∀ (b : Nat) (arr : Array Value) (ty : TypeId), w.heap[b]? = some (.cells arr ty (0, 0)) → ∃ (arr' : Array Value) (ty' : TypeId), w'.heap[b]? = some (.cells arr' ty' (0, 0)) ∧ arr.size ≤ arr'.size)
    (hx : ∀ k, 1000 ≤ k → x'.cap k = x.cap k) (hM : x'.M0 = x.M0) (hd : w.drawn ≤ w'.drawn) : More e x' w' m' where
  room k b cs hk hb := by
    obtain ⟨c0, h0, h1, h2⟩ := hm k b cs hk hb
    obtain ⟨arr, ty, h3, h4⟩ := h.room k b c0 h0 h1
    obtain ⟨arr', ty', h5, h6⟩ := hw b arr ty h3
    exact ⟨arr', ty', h5, by omega⟩
  ext k hk := (hx k hk).trans (h.ext k hk)
  M0 := hM.trans h.M0
  drawn := Nat.le_trans h.drawn hd

structure Inv (e : Env) (x : X) (w : World) (m : Mem) : Prop where
  sub : ∀ b o v, x.M b o = some v → w.cell? ⟨b, o, none⟩ = some v
  slot : ∀ k cs, lookup m k = some cs → ∃ b ty arr, x.loc k = some b ∧ (e.w0.heap.size ≤ b ∨ b ∈ e.E ∧ 1000 ≤ k) ∧ w.heap[b]? = some (.cells arr ty (0, 0)) ∧ Cont x cs arr.toList ∧ ∀ o, x.M b o = none
  inj : ∀ k k' cs cs' b, lookup m k = some cs → lookup m k' = some cs' → x.loc k = some b → x.loc k' = some b → k = k'
  tok : ∀ k v sz, x.tk k = some (v, sz) → TokOk e x w v sz
  tokslot : ∀ k a n c sz j cs, x.tk k = some (.slice (some a) n c, sz) → 0 < c → lookup m j = some cs → x.loc j ≠ some a.block
  toktok : ∀ k k' a n c sz a' n' c' sz', x.tk k = some (.slice (some a) n c, sz) → x.tk k' = some (.slice (some a') n' c', sz') → 0 < c → 0 < c' → a.block = a'.block → k = k'
  os : w.os = e.w0.os
  tape : w.tape = e.w0.tape
  output : w.output = e.w0.output
  size : e.w0.heap.size ≤ w.heap.size
  old : ∀ b, b < e.w0.heap.size → b ∉ e.E → b ∉ e.L → w.heap[b]? = e.w0.heap[b]?
  mono : Sub e.x0.M x.M
  new : ∀ b o v, x.M b o = some v → e.x0.M b o = some v ∨ e.w0.heap.size ≤ b ∨ b ∈ e.L
  ext : ∀ k, 1000 ≤ k → x.loc k = e.x0.loc k
  low : ∀ b o v, e.x0.M b o = some v → b < e.w0.heap.size
  more : More e x w m
  glob : GlobOk e

theorem Inv.lt {e : Env} {x : X} {w : World} {m : Mem} (h : Inv e x w m) {b o : Nat} {v : Value} (hv : x.M b o = some v) : b < w.heap.size := by
  have := h.sub b o v hv
  unfold World.cell? at this
  split at this
  · rename_i hb; exact (Array.getElem?_eq_some_iff.1 hb).1
  · simp at this
theorem Inv.tokLt {e : Env} {x : X} {w : World} {m : Mem} (h : Inv e x w m) {k a n c sz} (hk : x.tk k = some (.slice (some a) n c, sz)) (hn : 0 < c) : a.block < w.heap.size := by
  obtain ⟨cur, ty, _, _, _, hb, _⟩ := h.tok k _ _ hk a n c rfl hn
  exact (Array.getElem?_eq_some_iff.1 hb).1

/-- Draws change nothing. -/
theorem Inv.drew {e : Env} {x : X} {w : World} {m : Mem} (h : Inv e x w m) : Inv e x w.drew m :=
  ⟨h.sub, h.slot, h.inj, h.tok, h.tokslot, h.toktok, h.os, h.tape, h.output, h.size, h.old, h.mono, h.new, h.ext, h.low, h.more.step (fun k b cs hk hb => ⟨cs, hk, hb, rfl⟩) (fun b arr ty hb => ⟨arr, ty, hb, Nat.le_refl _⟩) (fun _ _ => rfl) rfl (Nat.le_succ _), h.glob⟩

/-- Only what is looked up counts. -/
theorem Inv.congr {e : Env} {x : X} {w : World} {m m' : Mem} (h : Inv e x w m) (hm : ∀ k, lookup m' k = lookup m k) : Inv e x w m' where
  sub := h.sub
  slot k cs hk := h.slot k cs (by rw [← hm]; exact hk)
  inj k k' cs cs' b hk hk' := h.inj k k' cs cs' b (by rw [← hm]; exact hk) (by rw [← hm]; exact hk')
  tok := h.tok
  tokslot k a n c sz j cs hk hn hj := h.tokslot k a n c sz j cs hk hn (by rw [← hm]; exact hj)
  toktok := h.toktok
  os := h.os
  tape := h.tape
  output := h.output
  size := h.size
  old := h.old
  mono := h.mono
  new := h.new
  ext := h.ext
  low := h.low
  more := h.more.step (fun k b cs hk hb => ⟨cs, by rw [← hm]; exact hk, hb, rfl⟩) (fun b arr ty hb => ⟨arr, ty, hb, Nat.le_refl _⟩) (fun _ _ => rfl) rfl (Nat.le_refl _)
  glob := h.glob

/-- Less memory of slots, struck of what x' does not know. -/
theorem Inv.forget {e : Env} {x x' : X} {w : World} {m m' : Mem} {p ks : List Nat} (h : Inv e x w m) (hx : Ext x x' p ks) (hM : x'.M = x.M)
    (hloc : ∀ k b, x'.loc k = some b → x.loc k = some b) (hext : ∀ k, 1000 ≤ k → x'.loc k = x.loc k) (hcap : ∀ k, 1000 ≤ k → x'.cap k = x.cap k)
    (hm : ∀ k cs, lookup m' k = some cs → mem k p = false ∧ ∃ cs0, lookup m k = some cs0 ∧ cs = AV.scrubL p ks cs0)
    (htok : ∀ k v sz, x'.tk k = some (v, sz) → TokOk e x w v sz)
    (htokslot : ∀ k a n c sz j cs, x'.tk k = some (.slice (some a) n c, sz) → 0 < c → lookup m j = some cs → x.loc j ≠ some a.block)
    (htoktok : ∀ k k' a n c sz a' n' c' sz', x'.tk k = some (.slice (some a) n c, sz) → x'.tk k' = some (.slice (some a') n' c', sz') → 0 < c → 0 < c' → a.block = a'.block → k = k') :
    Inv e x' w m' where
  sub := by rw [hM]; exact h.sub
  slot k cs hk := by
    obtain ⟨hp, cs0, h0, rfl⟩ := hm k cs hk
    obtain ⟨b, ty, arr, h1, h2, h3, h4, h5⟩ := h.slot k cs0 h0
    exact ⟨b, ty, arr, hx.loc k b hp h1, h2, h3, h4.scrub hx, by rw [hM]; exact h5⟩
  inj k k' cs cs' b hk hk' hb hb' := by
    obtain ⟨_, c0, h0, _⟩ := hm k cs hk
    obtain ⟨_, c1, h1, _⟩ := hm k' cs' hk'
    exact h.inj k k' c0 c1 b h0 h1 (hloc k b hb) (hloc k' b hb')
  tok k v sz hk := by
    have := htok k v sz hk
    intro a n c hv hn
    obtain ⟨cur, ty, h1, h2, h3, h4, h5, h6, h7⟩ := this a n c hv hn
    exact ⟨cur, ty, h1, h2, h3, h4, h5, h6, by rw [hM]; exact h7⟩
  tokslot k a n c sz j cs hk hn hj hl := by
    obtain ⟨_, c0, h0, _⟩ := hm j cs hj
    exact htokslot k a n c sz j c0 hk hn h0 (hloc j _ hl)
  toktok := htoktok
  os := h.os
  tape := h.tape
  output := h.output
  size := h.size
  old := h.old
  mono := by rw [hM]; exact h.mono
  new := by rw [hM]; exact h.new
  ext k hk := by rw [hext k hk]; exact h.ext k hk
  low := h.low
  more := h.more.step (fun k b cs hk hb => by
    obtain ⟨hp, c0, h0, _⟩ := hm k cs hk
    exact ⟨c0, h0, hloc k b hb, hx.cap k hp⟩) (fun b arr ty hb => ⟨arr, ty, hb, Nat.le_refl _⟩) hcap hx.M0 (Nat.le_refl _)
  glob := h.glob

/-! a new row of cells that will never change -/
def X.withRow (x : X) (g : Nat) (cs : List Value) : X :=
  { x with M := fun b o => if b = g then cs[o]? else x.M b o }
theorem heap_new (w : World) (o : Obj) : (w.alloc o).heap[w.heap.size]? = some o := by
  show (w.heap.push o)[w.heap.size]? = some o
  simp
theorem heap_old (w : World) (o : Obj) (b : Nat) (h : b < w.heap.size) : (w.alloc o).heap[b]? = w.heap[b]? := by
  show (w.heap.push o)[b]? = _
  rw [Array.getElem?_push, if_neg (by omega)]
theorem Sub.withRow {e : Env} {x : X} {w : World} {m : Mem} (h : Inv e x w m) (cs : List Value) : Sub x.M (x.withRow w.heap.size cs).M := by
  intro b o v hv
  have := h.lt hv
  simp only [X.withRow]; rw [if_neg (by omega)]; exact hv
theorem Ext.withRow {e : Env} {x : X} {w : World} {m : Mem} (h : Inv e x w m) (cs : List Value) (p ks : List Nat) : Ext x (x.withRow w.heap.size cs) p ks :=
  ⟨Sub.withRow h cs, fun _ _ _ h => h, fun _ _ _ h => h, fun _ _ => rfl, rfl⟩
theorem Inv.withRow {e : Env} {x : X} {w : World} {m : Mem} (h : Inv e x w m) (arr : Array Value) (ty : TypeId) (cs : List Value) (hcs : ∀ (j : Nat) (v : Value), cs[j]? = some v → arr[j]? = some v) :
    Inv e (x.withRow w.heap.size cs) (w.alloc (.cells arr ty)) m where
  sub b o v hv := by
    simp only [X.withRow] at hv
    by_cases hb : b = w.heap.size
    · subst hb
      rw [if_pos rfl] at hv
      rw [World.cell?_alloc_new]; exact hcs o v hv
    · rw [if_neg hb] at hv
      rw [World.cell?_alloc_lt _ _ _ (h.lt hv)]; exact h.sub b o v hv
  slot k ds hk := by
    obtain ⟨b, t, a, h1, h2, h3, h4, h5⟩ := h.slot k ds hk
    have hb := (Array.getElem?_eq_some_iff.1 h3).1
    refine ⟨b, t, a, h1, h2, by rw [heap_old _ _ _ hb]; exact h3, h4.mono (Ext.withRow h cs _ _), fun o => ?_⟩
    simp only [X.withRow]; rw [if_neg (by omega)]; exact h5 o
  inj := h.inj
  tok k v sz hk a n c hv hn := by
    obtain ⟨cur, ty, h1, h2, h3, h4, h5, h6, h7⟩ := h.tok k v sz hk a n c hv hn
    have hb := (Array.getElem?_eq_some_iff.1 h4).1
    refine ⟨cur, ty, h1, h2, h3, by rw [heap_old _ _ _ hb]; exact h4, h5, h6, fun j hj => ?_⟩
    simp only [X.withRow]; rw [if_neg (by omega)]; exact h7 j hj
  tokslot := h.tokslot
  toktok := h.toktok
  os := h.os
  tape := h.tape
  output := h.output
  size := by have := h.size; simp; omega
  old b hb hE hL := by rw [heap_old _ _ _ (by have := h.size; omega)]; exact h.old b hb hE hL
  mono := h.mono.trans (Sub.withRow h cs)
  new b o v hv := by
    simp only [X.withRow] at hv
    by_cases hb : b = w.heap.size
    · right; left; have := h.size; omega
    · rw [if_neg hb] at hv; exact h.new b o v hv
  ext := h.ext
  low := h.low
  more := h.more.step (fun k b cs hk hb => ⟨cs, hk, hb, rfl⟩) (fun b arr ty hb => ⟨arr, ty, by rw [heap_old _ _ _ (Array.getElem?_eq_some_iff.1 hb).1]; exact hb, Nat.le_refl _⟩) (fun _ _ => rfl) rfl (Nat.le_refl _)
  glob := h.glob

/-- What a call comes to. -/
def Contract (P : Program) (f : FuncId) (args : List AV) (ext : List (List AV)) (out : Out) : Prop :=
  (∃ fn, P.funcs[f]? = some fn ∧ fn.body.isSome = true ∧ fn.name ≠ "runtime.NumGoroutine") ∧
  ∀ (w : World) (x : X) (E L : List Nat) (vs : List Value), (AV.hasTokL args = false → L = [] ∧ ∀ k, x.tk k = none) → Inv ⟨P, w, x, E, [], L⟩ x w (zipExt 1000 ext) → RepL x args vs →
    Calls P f ⟨vs⟩ w fun en w' => ∃ x' v, out.ext.length = ext.length ∧ (en = if out.pan then .panicked [{ v, recovered := false }] else .returned v) ∧ Inv ⟨P, w, x, E, [], L⟩ x' w' (zipExt 1000 out.ext) ∧ Rep x' out.res v

def OSound (P : Program) (Φ : Orc) : Prop :=
  ∀ (R : Type) (f : FuncId) (args : List AV) (ext : List (List AV)) (k : Out → Option R) (r : R), Φ.call R f args ext k = some r → ∃ out, Contract P f args ext out ∧ k out = some r
end Go.Den
