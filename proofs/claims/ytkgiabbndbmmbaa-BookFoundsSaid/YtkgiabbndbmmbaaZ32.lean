import Derived.Test.YtkgiabbndbmmbaaZ30
import Derived.Test.YtkgiabbndbmmbaaZ31
set_option linter.unusedVariables false
set_option linter.unusedSimpArgs false
set_option linter.unusedSectionVars false
namespace Go.Den
open Go.Proofs
theorem z16_pure (b0 : Bool) (r1 : Rows) (b2 : Bool) (r3 : Rows) (h1 : Fsl b0 kD r1) (h3 : Fsl b2 kF r3) : ∃ n, z16_v n b0 r1 b2 r3 = some (true, ()) := by
  refine ⟨2000 + r1.length + r3.length + szD r1 + szF r3, ?_⟩
  generalize hN : 2000 + r1.length + r3.length + szD r1 + szF r3 = n
  have hn : 1000 < n := by omega
  have w1 : z28_v n b0 r1 300 = some (sumTo 300 (w16 300) r1 0, ()) := weight16_q (by omega) (by omega) h1.2.2.1 h1.1 (by omega) (szD_mem (by omega)) (by omega)
  have w3 : z33_v n b2 r3 200 = some (weight4 200 r3 0, ()) := weight4_q (by omega) (by omega) h3.2.2.1 h3.1 (fun r hr => by have := sum_rows r hr; unfold szF at hN; omega) (by omega)
  have hlive := live16 (n := n) (by omega)
  rw [z16_e, w1, obind_some]
  cases d1 : decide (sumTo 300 (w16 300) r1 0 > 300) with
  | true => rw [cond_true, hlive]; rfl
  | false =>
  rw [cond_false, w3, obind_some]
  cases d3 : decide (weight4 200 r3 0 > 200) with
  | true => rw [cond_true, hlive]; rfl
  | false =>
  rw [cond_false]
  have d1 := of_decide_eq_false d1
  have d3 := of_decide_eq_false d3
  obtain ⟨a1, l1⟩ := small16 (most := 300) (by omega) (by omega) h1.2.2.1 (by omega)
  obtain ⟨a3, l3⟩ := smallF_of (most := 200) (by omega) h3.2.2.1 (by omega)
  obtain ⟨b', r4, b9, r10, m1, m2, m3, m4, m5, m6, m7, m8⟩ := made_q hn (b0 := b0) a1 (by omega)
  have hc := copy4_q (n := n) (b0 := b2) (r1 := r3) (by omega) (by omega) a3
  have ac := copy_small a3
  have lc : (r3.map copyR).length = r3.length := List.length_map _
  obtain ⟨bo, ro, o1, o2, o3, o4, o5⟩ := founded_q hn (b0 := r3.isEmpty) (b2 := b') (r1 := r3.map copyR) (r3 := r4) ac (by omega) m4 (by omega)
  obtain ⟨bp, rp, p1, p2, p3, p4, p5⟩ := refFounded_q hn (b0 := b2) (b2 := b9) (r1 := r3) (r3 := r10) a3 (by omega) m5 (by omega)
  have hlk := z42_q (n := n) (b0 := bo) (b2 := bp) (r1 := ro) (r3 := rp) (by unfold big; omega) (by omega) (fun r hr => by have := (o4 r hr).1; unfold big; omega)
  have hl : likeF ro rp = true := by
    rw [likeF_likeK]
    refine like_of o2 p2 fun f => ?_
    rw [o3 f, p3 f, m2, m3]
    exact ⟨Fnd.mono (fun _ h => h) (fun f => (copy_in f).1), Fnd.mono (fun _ h => h) (fun f => (copy_in f).2)⟩
  have hll := z42_q (n := n) (b0 := r3.isEmpty) (b2 := b2) (r1 := r3.map copyR) (r3 := r3) (by unfold big; omega) (by omega) (fun r hr => by have := (ac r hr).1; unfold big; omega)
  refine obind_eq m1 (obind_eq hc (obind_eq o1 (obind_eq p1 (obind_eq hlk ?_))))
  refine cond_eqT hl (obind_eq hll (cond_eqT (copy_like r3) (obind_eq hlive rfl)))
end Go.Den
