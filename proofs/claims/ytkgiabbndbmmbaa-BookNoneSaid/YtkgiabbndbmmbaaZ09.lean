import Derived.Test.YtkgiabbndbmmbaaZ06
import Derived.Test.YtkgiabbndbmmbaaProg
import Derived.KernelRfl
import Derived.Test.YtkgiabbndbmmbaaZ07
set_option linter.unusedVariables false
set_option linter.unusedSimpArgs false
set_option linter.unusedSectionVars false
set_option linter.unusedVariables false
set_option linter.unusedSimpArgs false
namespace Go.Den
open Go.Proofs Go.Shelf Go.RowKit Go.Lib
abbrev zDeriv : Value := .agg #[Value.int IntKind.i64 0, Value.string ⟨#[]⟩, Value.string ⟨#[]⟩, Value.string ⟨#[]⟩, Value.slice none 0 0, Value.slice none 0 0]
set_option maxHeartbeats 4000000 in
set_option maxRecDepth 100000 in
theorem clo53_raw (vb voff m vc : Nat) (vs : List Value) (w : World) (hm : 0 < m) (hbig : m * 104 ≤ 140737488355328) (hvl : vs.length = m * 6)
  (hvs : ∀ j v, vs[j]? = some v → w.cell? ⟨vb, voff + j, none⟩ = some v) (h1v : ∀ v ∈ vs, v.oneCell' = true) :
  Calls Try.prog 53 #[.slice (some ⟨vb, voff, none⟩) m vc] w fun e w' =>
   e = .returned (.slice (some ⟨w.heap.size + 1, 0, none⟩) m (grownCap (w.alloc (.cells #[] 42)) m 0 42)) ∧
   w' = (w.alloc (.cells #[] 42)).drew.alloc (.cells (vs.toArray ++ Builtin.zeroCells zDeriv.cells (grownCap (w.alloc (.cells #[] 42)) m 0 42 - m)) 42) := by
 have t4 := Try.underlying4; have a4 := Try.isAgg4; have z4 := Try.sizeOf4; have v4 := Try.zeroValue4; have t9 := Try.underlying42; have a9 := Try.isAgg42; have z9 := Try.sizeOf42; have t22 := Try.underlying22; have a22 := Try.isAgg22; have z22 := Try.sizeOf22; have v22 := Try.zeroValue22
 have u22 := run_underlying t22
 have q22 : ∀ (w : World) (a : Option Addr) (n c n' c' : Nat), (binOp .eql 22 (.slice a n c) (.slice none n' c')).run Try.prog w = .ok (.bool a.isNone) w := fun w a n c n' c' => Lib.run_eql_slice_nil w _ _ a n c n' c' t22
 obtain ⟨i0, hi0, hz0, hzs, hzb⟩ := info_parts ins52_info
 have mixed := ins52_mixed
 have hvw : vb < w.heap.size := block_lt_of_cell (hvs 0 _ (List.getElem?_eq_getElem (by omega)))
 have hsrc : Src Try.prog i0.size 22 (.slice (some ⟨vb, voff, none⟩) m vc) m vs (w.alloc (.cells #[] 42)) := Src.ofSlice _ t22 ⟨vb, voff, none⟩ m vc vs (by rw [hvl, hzs]) (fun j u hj => by rw [Addr.add_lit, World.cell?_alloc_past _ vb _ hvw]; exact hvs j u hj) h1v
 have hold : (Builtin.firstCells i0.size 0 (.slice (some ⟨w.heap.size, 0, none⟩) 0 0)).run Try.prog (w.alloc (.cells #[] 42)).drew = .ok ([] : List Value).toArray (w.alloc (.cells #[] 42)).drew :=
  run_firstCells_some _ i0.size 0 ⟨w.heap.size, 0, none⟩ 0 0 [] (by simp) (by simp)
 have hra : ∀ ty, (Builtin.append_ #[22, 22] ty #[.slice (some ⟨w.heap.size, 0, none⟩) 0 0, .slice (some ⟨vb, voff, none⟩) m vc]).run Try.prog (w.alloc (.cells #[] 42)) = .ok (.slice (some ⟨w.heap.size + 1, 0, none⟩) m (grownCap (w.alloc (.cells #[] 42)) m 0 42)) ((w.alloc (.cells #[] 42)).drew.alloc (.cells (vs.toArray ++ Builtin.zeroCells zDeriv.cells (grownCap (w.alloc (.cells #[] 42)) m 0 42 - m)) 42)) := fun ty => by
  have h := run_append_grow_src (w.alloc (.cells #[] 42)) 22 22 ty 42 i0 _ t22 hi0 hz0 (some ⟨w.heap.size, 0, none⟩) 0 0 [] hold _ m vs hsrc (by omega) (by omega) (by rw [hzb]; exact growslice_fits (by omega) (by omega))
  rw [Nat.zero_add, List.nil_append] at h
  have e1 : (w.alloc (.cells #[] 42)).heap.size = w.heap.size + 1 := by show (w.heap.push _).size = _; simp
  rw [e1] at h
  exact h
 go_enter Try.func53, Try.ntmps53
 go_wp2_with (at_builtin; refine Lib.wpList_append_run _ rfl _ _ _ _ rfl _ _ rfl rfl _ _ (hra _) ?_)
 all_goals (go_ret; exact ⟨rfl, rfl⟩)
set_option maxHeartbeats 4000000 in
set_option maxRecDepth 100000 in
theorem clo53_nil (c : Nat) (w : World) : Calls Try.prog 53 #[.slice none 0 c] w fun e w' => e = .returned (.slice none 0 0) ∧ w' = w := by
 have t4 := Try.underlying4; have a4 := Try.isAgg4; have z4 := Try.sizeOf4; have v4 := Try.zeroValue4; have t22 := Try.underlying22; have a22 := Try.isAgg22; have z22 := Try.sizeOf22; have v22 := Try.zeroValue22
 have u22 := run_underlying t22
 have q22 : ∀ (w : World) (a : Option Addr) (n c n' c' : Nat), (binOp .eql 22 (.slice a n c) (.slice none n' c')).run Try.prog w = .ok (.bool a.isNone) w := fun w a n c n' c' => Lib.run_eql_slice_nil w _ _ a n c n' c' t22
 have mixed := ins52_mixed
 go_enter Try.func53, Try.ntmps53
 go_wp2
 all_goals (go_ret; exact ⟨rfl, rfl⟩)
set_option maxHeartbeats 4000000 in
set_option maxRecDepth 100000 in
theorem clo53_none (a : Addr) (c : Nat) (w : World) : Calls Try.prog 53 #[.slice (some a) 0 c] w fun e w' => e = .returned (.slice (some ⟨w.heap.size, 0, none⟩) 0 0) ∧ w' = w.alloc (.cells #[] 42) := by
 have t4 := Try.underlying4; have a4 := Try.isAgg4; have z4 := Try.sizeOf4; have v4 := Try.zeroValue4; have t9 := Try.underlying42; have a9 := Try.isAgg42; have z9 := Try.sizeOf42; have t22 := Try.underlying22; have a22 := Try.isAgg22; have z22 := Try.sizeOf22; have v22 := Try.zeroValue22
 have u22 := run_underlying t22
 have q22 : ∀ (w : World) (a : Option Addr) (n c n' c' : Nat), (binOp .eql 22 (.slice a n c) (.slice none n' c')).run Try.prog w = .ok (.bool a.isNone) w := fun w a n c n' c' => Lib.run_eql_slice_nil w _ _ a n c n' c' t22
 obtain ⟨i0, hi0, hz0, hzs, hzb⟩ := info_parts ins52_info
 have mixed := ins52_mixed
 have hsrc : Src Try.prog i0.size 22 (.slice (some a) 0 c) 0 [] (w.alloc (.cells #[] 42)) := Src.ofSlice _ t22 a 0 c [] (by simp) (by simp) (by simp)
 have hra : ∀ ty, (Builtin.append_ #[22, 22] ty #[.slice (some ⟨w.heap.size, 0, none⟩) 0 0, .slice (some a) 0 c]).run Try.prog (w.alloc (.cells #[] 42)) = .ok (.slice (some ⟨w.heap.size, 0, none⟩) 0 0) (w.alloc (.cells #[] 42)) := fun ty => by
  have h := run_append_room_src (w.alloc (.cells #[] 42)) 22 22 ty 42 i0 t22 hi0 w.heap.size 0 0 0 _ 0 [] hsrc (by omega) (by simp) (by simp)
  exact h
 go_enter Try.func53, Try.ntmps53
 go_wp2_with (at_builtin; refine Lib.wpList_append_run _ rfl _ _ _ _ rfl _ _ rfl rfl _ _ (hra _) ?_)
 all_goals (go_ret; exact ⟨rfl, rfl⟩)
end Go.Den
set_option linter.unusedVariables false
set_option linter.unusedSimpArgs false
namespace Go.Den
open Go.Proofs Go.Shelf Go.RowKit Go.Lib
theorem run_clear_cellsK {P : Program} (w : World) (tS ty e : TypeId) (z : Value) (ht : P.underlying tS = some (.slice e)) (hz : ∀ w, (zeroValue e).run P w = .ok z w) (b o n c : Nat) (hn : 0 < n) (h1 : ∀ v ∈ (Builtin.zeroCells z.cells n).toList, v.oneCell' = true)
  (hc : ∀ j, j < (Builtin.zeroCells z.cells n).toList.length → (w.cell? ⟨b, o + j, none⟩).isSome = true) (hf : ∀ j, j < (Builtin.zeroCells z.cells n).toList.length → w.frozen? ⟨b, o + j, none⟩ = false) :
  (Builtin.clear_ #[tS] ty #[.slice (some ⟨b, o, none⟩) n c]).run P w = .ok (.tuple #[]) (w.setCells b o (Builtin.zeroCells z.cells n).toList) := by
 obtain ⟨n, rfl⟩ : ∃ m, n = m + 1 := ⟨n - 1, by omega⟩
 have hst := run_storeCells_cells (P := P) b o (Builtin.zeroCells z.cells (n + 1)).toList 0 w (by simpa using hc) (by simpa using hf) h1
 simp only [Nat.add_zero] at hst
 simp [Builtin.clear_, run_underlying ht, hz, hst]
theorem zD_one : ∀ n, ∀ v ∈ (Builtin.zeroCells zDeriv.cells n).toList, v.oneCell' = true := zeroCells_ones (by
 intro v hv
 have : v ∈ [Value.int IntKind.i64 0, Value.string ⟨#[]⟩, Value.string ⟨#[]⟩, Value.string ⟨#[]⟩, Value.slice none 0 0, Value.slice none 0 0] := hv
 simp only [List.mem_cons, List.not_mem_nil, or_false] at this
 rcases this with rfl | rfl | rfl | rfl | rfl | rfl <;> rfl)
set_option maxHeartbeats 4000000 in
set_option maxRecDepth 100000 in
theorem del54_raw (b n c i j : Nat) (cs : List Value) (w : World) (hij : i < j) (hj : j ≤ n) (hnc : n ≤ c) (hc63 : c ≤ 9223372036854775807) (hcl : cs.length = n * 6)
  (hcs : ∀ j v, cs[j]? = some v → w.cell? ⟨b, j, none⟩ = some v) (hfz : ∀ o s, w.frozen? ⟨b, o, s⟩ = false) (h1c : ∀ v ∈ cs, v.oneCell' = true) :
  Calls Try.prog 54 #[.slice (some ⟨b, 0, none⟩) n c, .int .i64 i, .int .i64 j] w fun e w' =>
   e = .returned (.slice (some ⟨b, 0, none⟩) (i + (n - j)) c) ∧ w' = (w.drew.setCells b (i * 6) (cs.drop (j * 6))).setCells b ((i + (n - j)) * 6) (Builtin.zeroCells zDeriv.cells (n - (i + (n - j)))).toList := by
 have t0 := Try.underlying0; have a0 := Try.isAgg0; have z0 := Try.sizeOf0; have v0 := Try.zeroValue0; have t3 := Try.underlying3; have a3 := Try.isAgg3; have z3 := Try.sizeOf3; have v3 := Try.zeroValue3; have t4 := Try.underlying4; have a4 := Try.isAgg4; have z4 := Try.sizeOf4; have v4 := Try.zeroValue4; have t9 := Try.underlying42; have a9 := Try.isAgg42; have z9 := Try.sizeOf42; have v9 := Try.zeroValue42; have t22 := Try.underlying22; have a22 := Try.isAgg22; have z22 := Try.sizeOf22; have v22 := Try.zeroValue22
 have u0 := run_underlying t0; have u3 := run_underlying t3; have u4 := run_underlying t4; have u22 := run_underlying t22
 obtain ⟨i0, hi0, hz0, hzs, hzb⟩ := info_parts ins52_info
 have mixed := ins52_mixed
 have hne : ¬ ((i : Int) = (j : Int)) := by omega
 have hdl : (cs.drop (j * 6)).length = (n - j) * 6 := by rw [List.length_drop, hcl]; omega
 have hcell : ∀ q, q < n * 6 → (w.cell? ⟨b, q, none⟩).isSome = true := fun q hq => by
  rw [hcs q _ (List.getElem?_eq_getElem (by omega))]; rfl
 obtain ⟨A, hA, hsrc⟩ : ∃ A : Addr, (if c = j then some (⟨b, 0, none⟩ : Addr) else some ⟨b, j * 6, none⟩) = some A ∧ Hid (∀ t u, (cs.drop (j * 6))[t]? = some u → w.drew.cell? (A.add t) = some u) := by
  by_cases h : c = j
  ·refine ⟨⟨b, 0, none⟩, by simp [h], fun t u hu => ?_⟩
   have h0 : (cs.drop (j * 6)).length = 0 := by rw [hdl]; omega
   rw [List.length_eq_zero_iff.1 h0] at hu
   simp at hu
  ·refine ⟨⟨b, j * 6, none⟩, by simp [h], fun t u hu => ?_⟩
   rw [List.getElem?_drop] at hu
   rw [Addr.add_lit]
   exact hcs _ _ hu
 have s1 : Hid ((cs.drop (j * 6)).length = (n - j) * 6) := hdl
 have s2 : Hid (∀ u ∈ cs.drop (j * 6), u.oneCell' = true) := fun u hu => h1c u (List.mem_of_mem_drop hu)
 have s3 : Hid (∀ t, t < (cs.drop (j * 6)).length → (w.drew.cell? ⟨b, 0 + i * 6 + t, none⟩).isSome = true ∧ w.drew.frozen? ⟨b, 0 + i * 6 + t, none⟩ = false) := fun t ht => ⟨hcell _ (by rw [hdl] at ht; omega), hfz _ _⟩
 obtain ⟨W1, hW1⟩ : ∃ W1, W1 = w.drew.setCells b (0 + i * 6) (cs.drop (j * 6)) := ⟨_, rfl⟩
 have hzl : ∀ q, (Builtin.zeroCells zDeriv.cells q).toList.length = q * 6 := fun q => by rw [Array.length_toList, size_zeroCells]; rfl
 have hcl2 : ∀ ty, (Builtin.clear_ #[22] ty #[.slice (some ⟨b, (i + (n - j)) * 6, none⟩) (n - (i + (n - j))) (c - (i + (n - j)))]).run Try.prog W1 = .ok (.tuple #[]) (W1.setCells b ((i + (n - j)) * 6) (Builtin.zeroCells zDeriv.cells (n - (i + (n - j)))).toList) := fun ty =>
  run_clear_cellsK W1 22 ty 42 zDeriv t22 v9 b ((i + (n - j)) * 6) (n - (i + (n - j))) (c - (i + (n - j))) (by omega) (zD_one _)
   (fun q hq => by rw [hzl] at hq; rw [hW1]; exact isSome_setCells b _ _ w.drew (fun t ht => by rw [hdl] at ht; exact hcell _ (by omega)) _ (hcell _ (by omega)))
   (fun q hq => by rw [hW1, World.frozen?_setCells]; exact hfz _ _)
 have hW : Hid (W1 = w.drew.setCells b (0 + i * 6) (cs.drop (j * 6))) := hW1
 have hic : i ≤ c := by omega
 have hjc : j ≤ c := by omega
 clear hW1 hcell hdl hcs
 go_enter Try.func54, Try.ntmps54
 go_wp2_with fail
 go_region_law_o (refine step_append_room rfl (.tmp 22) (.tmp 25) 22 rfl 42 i0 6 t22 hi0 hzs b 0 i c (by simp [Act.eval, Act.put]) A (n - j) (c - j) (cs.drop (j * 6)) (by simp [Act.eval, Act.put]) s1.out hsrc.out s2.out (by omega) s3.out ?_; rw [← hW.out])
 go_wp2
 go_ret
 exact ⟨rfl, by rw [hW.out, Nat.zero_add]; rfl⟩
end Go.Den
