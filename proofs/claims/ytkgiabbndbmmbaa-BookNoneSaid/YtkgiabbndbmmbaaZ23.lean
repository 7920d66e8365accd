import Derived.Test.YtkgiabbndbmmbaaZ22
set_option linter.unusedVariables false
set_option linter.unusedSimpArgs false
set_option linter.unusedSectionVars false
namespace Go.Den
open Go.Proofs
theorem kr_splice (x : Row) : kr (spliceD x 3 [DV.sl (Row.N x 3) [Kd.b, Kd.i IntKind.i64, Kd.s] (Row.R x 3)]) = kr x := by
 rcases x with _ | ⟨a, _ | ⟨b, _ | ⟨c, _ | ⟨d, x⟩⟩⟩⟩ <;> rfl
section
variable {n : Nat} (hn : 1000 < n)
include hn
theorem clone_i3_q {b : Bool} {r : Rows} (h : r.length ≤ 100000) (hw : b = true → r = []) : z28_v n b r = some ((b, r), ()) := by
 rw [z28_e]
 cases b with
 |true => rw [hw rfl]; rfl
 |false =>
  have : (0 + r.length) * 72 ≤ 140737488355328 := by omega
  simp only [cond_false, this, if_true, appX, List.nil_append, Bool.false_and]
theorem clone_i2_q {b : Bool} {r : Rows} (h : r.length ≤ 100000) (hw : b = true → r = []) : z29_v n b r = some ((b, r), ()) := by
 rw [z29_e]
 cases b with
 |true => rw [hw rfl]; rfl
 |false =>
  have : (0 + r.length) * 32 ≤ 140737488355328 := by omega
  simp only [cond_false, this, if_true, appX, List.nil_append, Bool.false_and]
theorem own_loop {j0 : Int} {s1 s2 s3 : ByteArray} {b4 b6 b11 : Bool} {r5 r7 r12 : Rows} {L : List KF} {m : Nat} (hm : m ≤ 100000) (hL : ∀ k ∈ L, SmallK k) : ∀ k q : Nat, q + k = m → ∀ f b13 r14, k < f → r14.map kr = L → r14.length = m → (b13 = true → r14 = []) →
  ∃ b rows, z50_l4 n j0 s1 s2 s3 b4 r5 b6 r7 f (m : Int) b11 r12 b13 r14 (q : Int) = some ((j0, (s1, (s2, (s3, ((b11, r12), ((b, rows), ())))))), ()) ∧ rows.map kr = L ∧ (b = true → rows = []) := by
 intro k
 induction k with
 |zero =>
  intro q hq f b13 r14 hf he hl hb
  obtain ⟨f, rfl⟩ : ∃ z, f = z + 1 := ⟨f - 1, by omega⟩
  rw [z50_s4]
  have h1 : ¬ ((q : Int) < (m : Int)) := by omega
  simp only [h1, decide_false, cond_false]
  exact ⟨_, _, rfl, he, hb⟩
 |succ k ih =>
  intro q hq f b13 r14 hf he hl hb
  obtain ⟨f, rfl⟩ : ∃ z, f = z + 1 := ⟨f - 1, by omega⟩
  have hlt : q < r14.length := by omega
  have hb0 : b13 = false := by
   cases b13 with
   |false => rfl
   |true => rw [hb rfl] at hlt; simp at hlt
  subst hb0
  have hem : r14.isEmpty = false := by cases r14 with | nil => simp at hlt | cons _ _ => rfl
  have h1 : (q : Int) < (m : Int) := by omega
  have h0 : (0 : Int) ≤ (q : Int) := by omega
  have h2 : (q : Int) < (r14.length : Int) := by omega
  have hs : SmallR r14[q] := by
   have : kr r14[q] ∈ L := by rw [← he]; exact List.mem_map_of_mem (List.getElem_mem hlt)
   exact hL _ this
  have hcl := clone_i2_q hn (b := Row.N r14[q] 3) (r := Row.R r14[q] 3) (by have := hs.1; omega) hs.2
  have hset : (r14.set q (spliceD r14[q] 3 [DV.sl (Row.N r14[q] 3) [Kd.b, Kd.i IntKind.i64, Kd.s] (Row.R r14[q] 3)])).map kr = L := by
   rw [List.map_set, kr_splice, ← he]
   apply List.ext_getElem?
   intro i
   rw [List.getElem?_set]
   split
   ·rename_i hi; subst hi; simp [hlt]
   ·rfl
  have hsl : 0 + r14.length ≤ (r14.set q (spliceD r14[q] 3 [DV.sl (Row.N r14[q] 3) [Kd.b, Kd.i IntKind.i64, Kd.s] (Row.R r14[q] 3)])).length := by rw [List.length_set]; omega
  have hkd : (Kd.sameL [Kd.s, Kd.s, Kd.s, Kd.sl [Kd.b, Kd.i IntKind.i64, Kd.s]] [Kd.s, Kd.s, Kd.s, Kd.sl [Kd.b, Kd.i IntKind.i64, Kd.s]] && Nat.ble (0 + r14.length) (0 + r14.length)) = true := by
   rw [Bool.and_eq_true]; exact ⟨by decide, by simp⟩
  rw [z50_s4, wrap_succ (show q < big by unfold big; omega)]
  simp only [h1, h0, h2, hem, Bool.or_false, decide_true, cond_true, cond_false, if_true, Int.toNat_natCast, Nat.zero_add, hlt, getD_get hlt, hcl, obind_some]
  rw [Nat.zero_add] at hsl
  simp only [hsl, if_true]
  simp only [Nat.zero_add] at hkd
  rw [hkd]
  simp only [cond_true, List.drop_zero]
  rw [List.take_of_length_le (by rw [List.length_set]; exact Nat.le_refl _)]
  exact ih (q + 1) (by omega) f false _ (by omega) hset (by rw [List.length_set]; exact hl) (fun h => by cases h)
theorem own_q {j0 : Int} {s1 s2 s3 : ByteArray} {b4 b6 : Bool} {r5 r7 : Rows} (h5 : r5.length ≤ 500) (hw : b4 = true → r5 = []) (hs : SmallL r7) (hb : r7.length ≤ 500) (hw7 : b6 = true → r7 = []) :
  ∃ b rows, z50_v n j0 s1 s2 s3 b4 r5 b6 r7 = some ((j0, (s1, (s2, (s3, ((b4, r5), ((b, rows), ())))))), ()) ∧ rows.map kr = r7.map kr ∧ (b = true → rows = []) := by
 rw [z50_e, clone_i2_q hn (by omega) hw, obind_some, clone_i3_q hn (by omega) hw7, obind_some]
 exact own_loop hn (m := r7.length) (L := r7.map kr) (by omega) (fun k hk => by obtain ⟨r, hr, rfl⟩ := List.mem_map.1 hk; exact hs r hr) r7.length 0 (by omega) n b6 r7 (by omega) rfl rfl hw7
end
@[reducible] def rowD (j0 : Int) (s1 s2 s3 : ByteArray) (b4 : Bool) (r5 : Rows) (b : Bool) (rows : Rows) : Row := [DV.val (Value.int IntKind.i64 j0), DV.val (Value.string s1), DV.val (Value.string s2), DV.val (Value.string s3), DV.sl b4 [Kd.b, Kd.i IntKind.i64, Kd.s] r5, DV.sl b [Kd.s, Kd.s, Kd.s, Kd.sl [Kd.b, Kd.i IntKind.i64, Kd.s]] rows]
section
variable {n : Nat} (hn : 1000 < n)
include hn
end
end Go.Den
