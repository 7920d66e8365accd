import Derived.Test.YtkgiabbndbmmbaaZ28
set_option linter.unusedVariables false
set_option linter.unusedSimpArgs false
set_option linter.unusedSectionVars false
namespace Go.Den
open Go.Proofs
set_option maxRecDepth 100000
theorem like_length : ∀ {a b : List KF}, likeK a b = true → a.length = b.length
 |[], [], _ => rfl
 |a :: l, b :: m, h => by
  unfold likeK at h
  cases hc : ordK a b != 0 with
  |true => rw [hc] at h; cases h
  |false => rw [hc] at h; simp [like_length h]
 |[], _ :: _, h => by cases h
 |_ :: _, [], h => by cases h
@[reducible] def sA : ByteArray := ByteArray.mk #[97]
@[reducible] def sP : ByteArray := ByteArray.mk #[112]
@[reducible] def aN (j : Int) : Rows := [[DV.val (Value.bool true), DV.val (Value.int IntKind.i64 j), DV.val (Value.string (ByteArray.mk #[]))]]
@[reducible] def fN (j : Int) : Row := [DV.val (Value.string sA), DV.val (Value.string sA), DV.val (Value.string sP), DV.sl false [Kd.b, Kd.i IntKind.i64, Kd.s] (aN j)]
@[reducible] def d1 : Row := rowD 0 sA sA sP false (aN 1) false [fN 2]
@[reducible] def d2 : Row := rowD 0 sA sA sP false (aN 2) false [fN 1]
theorem live_a1 (k : Nat) : z34_v (k + 64) 0 sA sA sP false (aN 1) false [fN 2] true [] true = some (true, (((false, [d1]), (true, ())), ())) := by kernel_rfl
theorem live_a2 (k : Nat) : z34_v (k + 64) 0 sA sA sP false (aN 2) false [fN 1] false [d1] true = some (true, (((false, [d1, d2]), (true, ())), ())) := by kernel_rfl
theorem live_o (k : Nat) : z38_v (k + 64) sA sA sP false (aN 1) false [d1, d2] true = some ((false, [d1]), (((false, [d1, d2]), (true, ())), ())) := by kernel_rfl
theorem fN_lt : ordK (kr (fN 1)) (kr (fN 2)) < 0 := of_decide_eq_true (by kernel_rfl)
theorem fN_small (j : Int) : SmallR (fN j) := ⟨by show (aN j).length ≤ 500; simp, fun h => by cases h⟩
theorem d_small : SmallDs [d1, d2] := fun r hr => by
 have h : ∀ i j : Int, SmallD (rowD 0 sA sA sP false (aN i) false [fN j]) := fun i j => ⟨by show (aN i).length ≤ 500; simp, (fun h => by cases h), (fun r hr => by rw [show Row.R (rowD 0 sA sA sP false (aN i) false [fN j]) 5 = [fN j] from rfl, List.mem_singleton] at hr; subst hr; exact fN_small j), by show [fN j].length ≤ 500; simp, fun h => by cases h⟩
 rcases List.mem_cons.1 hr with rfl | hr
 ·exact h 1 2
 ·rw [List.mem_singleton] at hr; subst hr; exact h 2 1
theorem live_f1 {n : Nat} (hn : 1000 < n) : ∃ b, z24_v n true [] false [d1, d2] true = some ((b, []), (((false, [d1, d2]), (true, ())), ())) := by
 obtain ⟨b, r, e1, e2, e3, e4, e5⟩ := founded_q hn (b0 := true) (b2 := false) (r1 := []) (r3 := [d1, d2]) (fun r hr => by cases hr) (by simp) d_small (by simp)
 have hno : ∀ f, ¬ Fnd ([d1, d2].map dr) [] f := fun f h => by
  induction h with
  |base f h => obtain ⟨k, hk, _⟩ := h; cases hk
  |step d f hd he _ ih =>
   rcases List.mem_cons.1 hd with rfl | hd
   ·exact ih (kr (fN 2)) List.mem_cons_self
   ·rw [List.map_cons, List.map_nil, List.mem_singleton] at hd
    subst hd
    exact ih (kr (fN 1)) List.mem_cons_self
 have hr : r = [] := by
  cases r with
  |nil => rfl
  |cons x r => exact absurd ((e3 (kr x)).1 ⟨kr x, List.mem_cons_self, ordK_self _⟩) (hno _)
 subst hr
 exact ⟨b, e1⟩
theorem live_f2 {n : Nat} (hn : 1000 < n) : ∃ b r, z24_v n false [fN 2] false [d1, d2] true = some ((b, r), (((false, [d1, d2]), (true, ())), ())) ∧ r.length = 2 := by
 obtain ⟨b, r, e1, e2, e3, e4, e5⟩ := founded_q hn (b0 := false) (b2 := false) (r1 := [fN 2]) (r3 := [d1, d2]) (fun r hr => by rw [List.mem_singleton] at hr; subst hr; exact fN_small 2) (by simp) d_small (by simp)
 have hl : likeK (r.map kr) [kr (fN 1), kr (fN 2)] = true := by
  refine like_of e2 ?_ fun f => ?_
  ·exact List.pairwise_cons.2 ⟨fun k hk => by rw [List.mem_singleton] at hk; subst hk; exact fN_lt, by simp⟩
  ·rw [e3 f]
   have b2 : Fnd ([d1, d2].map dr) ([fN 2].map kr) (kr (fN 2)) := .base _ ⟨kr (fN 2), List.mem_cons_self, ordK_self _⟩
   constructor
   ·intro h
    cases h with
    |base _ h =>
     obtain ⟨k, hk, e⟩ := h
     rw [List.map_cons, List.map_nil, List.mem_singleton] at hk
     subst hk
     exact ⟨kr (fN 2), by simp, e⟩
    |step d _ hd he _ =>
     rcases List.mem_cons.1 hd with rfl | hd
     ·exact ⟨kr (fN 1), by simp, he⟩
     ·rw [List.map_cons, List.map_nil, List.mem_singleton] at hd
      subst hd
      exact ⟨kr (fN 2), by simp, he⟩
   ·rintro ⟨k, hk, e⟩
    rcases List.mem_cons.1 hk with rfl | hk
    ·refine .step (dr d1) f List.mem_cons_self e fun g hg => ?_
     have hg' : g ∈ [kr (fN 2)] := hg
     rw [List.mem_singleton] at hg'
     subst hg'
     exact b2
    ·rw [List.mem_singleton] at hk
     subst hk
     exact b2.congr e
 exact ⟨b, r, e1, by simpa using like_length hl⟩
end Go.Den
