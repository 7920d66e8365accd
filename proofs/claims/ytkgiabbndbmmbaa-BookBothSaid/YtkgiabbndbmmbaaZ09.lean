import Derived.Test.YtkgiabbndbmmbaaZ06
import Derived.Test.YtkgiabbndbmmbaaProg
import Derived.KernelRfl
import Derived.Test.YtkgiabbndbmmbaaZ07
set_option linter.unusedVariables false
set_option linter.unusedSimpArgs false
set_option linter.unusedSectionVars false
set_option linter.unusedVariables false
set_option linter.unusedSimpArgs false
namespace Go.Den
open Go.Proofs Go.Shelf Go.RowKit Go.Lib
abbrev zDeriv : Value := .agg #[Value.int IntKind.i64 0, Value.string ⟨#[]⟩, Value.string ⟨#[]⟩, Value.string ⟨#[]⟩, Value.slice none 0 0, Value.slice none 0 0]
set_option maxHeartbeats 4000000 in
set_option maxRecDepth 100000 in
theorem clo53_raw (vb voff m vc : Nat) (vs : List Value) (w : World) (hm : 0 < m) (hbig : m * 104 ≤ 140737488355328) (hvl : vs.length = m * 6)
    (hvs : ∀ j v, vs[j]? = some v → w.cell? ⟨vb, voff + j, none⟩ = some v) (h1v : ∀ v ∈ vs, v.oneCell' = true) :
    Calls Try.prog 53 #[.slice (some ⟨vb, voff, none⟩) m vc] w fun e w' =>
      e = .returned (.slice (some ⟨w.heap.size + 1, 0, none⟩) m (grownCap (w.alloc (.cells #[] 42)) m 0 42)) ∧
      w' = (w.alloc (.cells #[] 42)).drew.alloc (.cells (vs.toArray ++ Builtin.zeroCells zDeriv.cells (grownCap (w.alloc (.cells #[] 42)) m 0 42 - m)) 42) := by
  have t4 := Try.underlying4; have a4 := Try.isAgg4; have z4 := Try.sizeOf4; have v4 := Try.zeroValue4; have t9 := Try.underlying42; have a9 := Try.isAgg42; have z9 := Try.sizeOf42; have t22 := Try.underlying22; have a22 := Try.isAgg22; have z22 := Try.sizeOf22; have v22 := Try.zeroValue22
  have u22 := run_underlying t22
  have q22 : ∀ (w : World) (a : Option Addr) (n c n' c' : Nat), (binOp .eql 22 (.slice a n c) (.slice none n' c')).run Try.prog w = .ok (.bool a.isNone) w := fun w a n c n' c' => Lib.run_eql_slice_nil w _ _ a n c n' c' t22
  obtain ⟨i0, hi0, hz0, hzs, hzb⟩ := info_parts ins52_info
  have mixed := ins52_mixed
  have hvw : vb < w.heap.size := block_lt_of_cell (hvs 0 _ (List.getElem?_eq_getElem (by omega)))
  have hsrc : Src Try.prog i0.size 22 (.slice (some ⟨vb, voff, none⟩) m vc) m vs (w.alloc (.cells #[] 42)) := Src.ofSlice _ t22 ⟨vb, voff, none⟩ m vc vs (by rw [hvl, hzs]) (fun j u hj => by rw [Addr.add_lit, World.cell?_alloc_past _ vb _ hvw]; exact hvs j u hj) h1v
  have hold : (Builtin.firstCells i0.size 0 (.slice (some ⟨w.heap.size, 0, none⟩) 0 0)).run Try.prog (w.alloc (.cells #[] 42)).drew = .ok ([] : List Value).toArray (w.alloc (.cells #[] 42)).drew :=
    run_firstCells_some _ i0.size 0 ⟨w.heap.size, 0, none⟩ 0 0 [] (by simp) (by simp)
  have hra : ∀ ty, (Builtin.append_ #[22, 22] ty #[.slice (some ⟨w.heap.size, 0, none⟩) 0 0, .slice (some ⟨vb, voff, none⟩) m vc]).run Try.prog (w.alloc (.cells #[] 42)) = .ok (.slice (some ⟨w.heap.size + 1, 0, none⟩) m (grownCap (w.alloc (.cells #[] 42)) m 0 42)) ((w.alloc (.cells #[] 42)).drew.alloc (.cells (vs.toArray ++ Builtin.zeroCells zDeriv.cells (grownCap (w.alloc (.cells #[] 42)) m 0 42 - m)) 42)) := fun ty => by
    have h := run_append_grow_src (w.alloc (.cells #[] 42)) 22 22 ty 42 i0 _ t22 hi0 hz0 (some ⟨w.heap.size, 0, none⟩) 0 0 [] hold _ m vs hsrc (by omega) (by omega) (by rw [hzb]; exact growslice_fits (by omega) (by omega))
    rw [Nat.zero_add, List.nil_append] at h
    have e1 : (w.alloc (.cells #[] 42)).heap.size = w.heap.size + 1 := by show (w.heap.push _).size = _; simp
    rw [e1] at h
    exact h
  go_enter Try.func53, Try.ntmps53
  go_wp2_with (at_builtin; refine Lib.wpList_append_run _ rfl _ _ _ _ rfl _ _ rfl rfl _ _ (hra _) ?_)
  all_goals (go_ret; exact ⟨rfl, rfl⟩)
set_option maxHeartbeats 4000000 in
set_option maxRecDepth 100000 in
theorem clo53_nil (c : Nat) (w : World) : Calls Try.prog 53 #[.slice none 0 c] w fun e w' => e = .returned (.slice none 0 0) ∧ w' = w := by
  have t4 := Try.underlying4; have a4 := Try.isAgg4; have z4 := Try.sizeOf4; have v4 := Try.zeroValue4; have t22 := Try.underlying22; have a22 := Try.isAgg22; have z22 := Try.sizeOf22; have v22 := Try.zeroValue22
  have u22 := run_underlying t22
  have q22 : ∀ (w : World) (a : Option Addr) (n c n' c' : Nat), (binOp .eql 22 (.slice a n c) (.slice none n' c')).run Try.prog w = .ok (.bool a.isNone) w := fun w a n c n' c' => Lib.run_eql_slice_nil w _ _ a n c n' c' t22
  have mixed := ins52_mixed
  go_enter Try.func53, Try.ntmps53
  go_wp2
  all_goals (go_ret; exact ⟨rfl, rfl⟩)
set_option maxHeartbeats 4000000 in
set_option maxRecDepth 100000 in
theorem clo53_none (a : Addr) (c : Nat) (w : World) : Calls Try.prog 53 #[.slice (some a) 0 c] w fun e w' => e = .returned (.slice (some ⟨w.heap.size, 0, none⟩) 0 0) ∧ w' = w.alloc (.cells #[] 42) := by
  have t4 := Try.underlying4; have a4 := Try.isAgg4; have z4 := Try.sizeOf4; have v4 := Try.zeroValue4; have t9 := Try.underlying42; have a9 := Try.isAgg42; have z9 := Try.sizeOf42; have t22 := Try.underlying22; have a22 := Try.isAgg22; have z22 := Try.sizeOf22; have v22 := Try.zeroValue22
  have u22 := run_underlying t22
  have q22 : ∀ (w : World) (a : Option Addr) (n c n' c' : Nat), (binOp .eql 22 (.slice a n c) (.slice none n' c')).run Try.prog w = .ok (.bool a.isNone) w := fun w a n c n' c' => Lib.run_eql_slice_nil w _ _ a n c n' c' t22
  obtain ⟨i0, hi0, hz0, hzs, hzb⟩ := info_parts ins52_info
  have mixed := ins52_mixed
  have hsrc : Src Try.prog i0.size 22 (.slice (some a) 0 c) 0 [] (w.alloc (.cells #[] 42)) := Src.ofSlice _ t22 a 0 c [] (by simp) (by simp) (by simp)
  have hra : ∀ ty, (Builtin.append_ #[22, 22] ty #[.slice (some ⟨w.heap.size, 0, none⟩) 0 0, .slice (some a) 0 c]).run Try.prog (w.alloc (.cells #[] 42)) = .ok (.slice (some ⟨w.heap.size, 0, none⟩) 0 0) (w.alloc (.cells #[] 42)) := fun ty => by
    have h := run_append_room_src (w.alloc (.cells #[] 42)) 22 22 ty 42 i0 t22 hi0 w.heap.size 0 0 0 _ 0 [] hsrc (by omega) (by simp) (by simp)
    exact h
  go_enter Try.func53, Try.ntmps53
  go_wp2_with (at_builtin; refine Lib.wpList_append_run _ rfl _ _ _ _ rfl _ _ rfl rfl _ _ (hra _) ?_)
  all_goals (go_ret; exact ⟨rfl, rfl⟩)
end Go.Den
