import Derived.Test.YtkgiabbndbmmbaaZ31
import Derived.Test.YtkgiabbndbmmbaaZ32
set_option linter.unusedVariables false
set_option linter.unusedSimpArgs false
set_option linter.unusedSectionVars false
namespace Go.Den
open Go.Proofs
theorem nb_self (i : Bool) : (!(i == i)) = false := by cases i <;> rfl
section
variable {n : Nat} (hn : 1000 < n)
include hn
theorem len_q {b : Bool} {r : Rows} : z28_v n b r true = some ((r.length : Int), (((b, r), (true, ())), ())) := by
  rw [z28_e, z14_e]
  have e0 : (!Row.B ([DV.sl b [Kd.i IntKind.i64, Kd.s, Kd.s, Kd.s, Kd.sl [Kd.b, Kd.i IntKind.i64, Kd.s], Kd.sl [Kd.s, Kd.s, Kd.s, Kd.sl [Kd.b, Kd.i IntKind.i64, Kd.s]]] r, DV.val (Value.bool true)]) 1) = false := rfl
  simp only [obind_some, e0, cond_false]
theorem tail_q {b bz : Bool} {r z : Rows} {h2 h3 h4 s2 s3 s4 : ByteArray} {h5 b5 : Bool} {h6 r6 : Rows} (hr : SmallDs r) (hz : SmallDs z) (hl : r.length ≤ 400) (he : z.map dr = r.map dr)
    (hh : h6.length ≤ 500) (hf : r6.length < big) (hfn : r6.length < n) (K : Bool → Rows → Bool → Bool → Rows → Option (Bool × Unit)) :
    (obind (z28_v n b r true) fun y66 =>
      bif y66.fst != (↑(List.length z) : Int) then some (false, ())
      else obind (z36_v n h2 h3 h4 h5 h6 y66.snd.fst.fst.fst y66.snd.fst.fst.snd y66.snd.fst.snd.fst) fun y67 =>
      obind (z27_v n h2 h3 h4 h5 h6 bz z) fun y68 =>
      obind (z47_v n y67.fst.fst y67.fst.snd y68.fst.fst y68.fst.snd) fun y69 =>
      bif !y69.fst then some (false, ())
      else obind (z25_v n s2 s3 s4 b5 r6 y67.snd.fst.fst.fst y67.snd.fst.fst.snd y67.snd.fst.snd.fst) fun y70 =>
      obind (z19_v n s2 s3 s4 b5 r6 y68.snd.fst.fst.fst y68.snd.fst.fst.snd) fun y71 =>
      obind (z47_v n y70.fst.fst y70.fst.snd y71.fst.fst y71.fst.snd) fun y72 =>
      bif !y72.fst then some (false, ())
      else obind (z21_v n y70.snd.fst.fst.fst y70.snd.fst.fst.snd y70.snd.fst.snd.fst) fun y73 =>
      obind (z15_v n y71.snd.fst.fst.fst y71.snd.fst.fst.snd) fun y74 =>
      obind (z44_v n y73.fst.fst y73.fst.snd y74.fst.fst y74.fst.snd) fun y75 =>
      bif !y75.fst then some (false, ())
      else K y73.snd.fst.fst.fst y73.snd.fst.fst.snd y73.snd.fst.snd.fst y74.snd.fst.fst.fst y74.snd.fst.fst.snd) = K b r true bz z := by
  have hlz : z.length = r.length := by have := congrArg List.length he; simpa using this
  obtain ⟨o1, p1, a1, a2, a3, a4⟩ := of_q hn (b3 := h5) (b5 := b) (r4 := h6) (r6 := r) (s0 := h2) (s1 := h3) (s2 := h4) hr (by omega) hh
  obtain ⟨o2, p2, c1, c2, c3, c4⟩ := refOf_q hn (b3 := h5) (b5 := bz) (r4 := h6) (r6 := z) (s0 := h2) (s1 := h3) (s2 := h4) hz (by omega)
  obtain ⟨o3, p3, d1, d2, d3, d4⟩ := uses_q hn (b3 := b5) (b5 := b) (r4 := r6) (r6 := r) (s0 := s2) (s1 := s3) (s2 := s4) hr (by omega) hf hfn
  obtain ⟨o4, p4, f1, f2, f3, f4⟩ := refUses_q hn (b3 := b5) (b5 := bz) (r4 := r6) (r6 := z) (s0 := s2) (s1 := s3) (s2 := s4) hz (by omega)
  obtain ⟨o5, p5, g1, g2, g3, g4⟩ := heads_q hn (b0 := b) (r1 := r) hr (by omega)
  obtain ⟨o6, p6, i1, i2, i3, i4⟩ := refHeads_q hn (b0 := bz) (r1 := z) hz (by omega)
  have l1 := like16_q hn (b0 := o1) (b2 := o2) (r1 := p1) (r3 := p2) a3 (by omega) (by rw [a2, c2, he])
  have l2 := like16_q hn (b0 := o3) (b2 := o4) (r1 := p3) (r3 := p4) d3 (by omega) (by rw [d2, f2, he])
  have l3 := z44_q (n := n) (b0 := o5) (b2 := o6) (r1 := p5) (r3 := p6) (by unfold big; omega) (by omega) (fun r hr => by have := (g4 r hr).1; unfold big; omega)
  have hk : likeF p5 p6 = true := by
    rw [likeF_likeK, i2]
    have hs := sortK_ok (l := z.map fun r => (dr r).2.1) (acc := []) List.Pairwise.nil
    refine like_of g2.strict hs.1 fun f => ?_
    rw [g2.inK, hs.2]
    have : (z.map fun r => (dr r).2.1) = r.map fun r => (dr r).2.1 := by
      have := congrArg (List.map fun d : KD => d.2.1) he
      rw [List.map_map, List.map_map] at this
      exact this
    rw [this]
    exact ⟨.inr, fun h => h.resolve_left fun ⟨k, hk, _⟩ => by cases hk⟩
  have hne : (((r.length : Int)) != (z.length : Int)) = false := by rw [hlz]; simp
  refine obind_eq (len_q hn) (cond_eqF hne (obind_eq a1 (obind_eq c1 (obind_eq l1 (cond_eqF rfl (obind_eq d1 (obind_eq f1 (obind_eq l2 (cond_eqF rfl (obind_eq g1 (obind_eq i1 (obind_eq l3 (cond_eqF ?_ rfl)))))))))))))
  show (!(likeF p5 p6)) = false
  rw [hk]; rfl
theorem does_loop {b0 b5 : Bool} {r1 r6 : Rows} {s2 s3 s4 : ByteArray} (hn2 : 1064 ≤ n) (hlen : r1.length < 200) (hD : SmallDs (r1.map actD)) (hf : r6.length < big) (hfn : r6.length < n) (hf32 : r6.length * 32 ≤ 140737488355328) (hw6 : b5 = true → r6 = []) :
    ∀ k q : Nat, q + k = r1.length → ∀ f (b10 b62 : Bool) (r11 r63 : Rows), k < f → r11.length ≤ q → SmallDs r11 → SmallDs r63 → Asc ordD (r11.map dr) → r63.map dr = r11.map dr → (b10 = true → r11 = []) →
    z23_l6 n b0 r1 s2 s3 s4 b5 r6 f b10 r11 true (q : Int) b62 r63 = some (true, ()) := by
  intro k
  induction k with
  | zero =>
    intro q hq f b10 b62 r11 r63 hf0 hl h11 h63 ha he hw
    obtain ⟨f, rfl⟩ : ∃ z, f = z + 1 := ⟨f - 1, by omega⟩
    have g1 : decide ((q : Int) < (r1.length : Int)) = false := decide_eq_false (by omega)
    exact (z23_s6 ..).trans (cond_eqF g1 (obind_eq (live16 hn2) rfl))
  | succ k ih =>
    intro q hq f b10 b62 r11 r63 hf0 hl h11 h63 ha he hw
    obtain ⟨f, rfl⟩ : ∃ z, f = z + 1 := ⟨f - 1, by omega⟩
    have hlt : q < r1.length := by omega
    have g1 : (q : Int) < (r1.length : Int) := by omega
    have g0 : (0 : Int) ≤ (q : Int) := by omega
    have hx : SmallD (actD r1[q]) := hD _ (List.mem_map_of_mem (List.getElem_mem hlt))
    have x1 : (Row.R r1[q] 5).length ≤ 500 := hx.1
    have x2 : Row.N r1[q] 5 = true → Row.R r1[q] 5 = [] := hx.2.1
    have x3 : SmallL (Row.R r1[q] 6) := hx.2.2.1
    have x4 : (Row.R r1[q] 6).length ≤ 500 := hx.2.2.2.1
    have x5 : Row.N r1[q] 6 = true → Row.R r1[q] 6 = [] := hx.2.2.2.2
    have hl63 : r63.length = r11.length := by have := congrArg List.length he; simpa using this
    refine (z23_s6 ..).trans ?_
    rw [wrap_succ (show q < big by unfold big; omega)]
    simp only [g1, g0, decide_true, cond_true, if_true, Int.toNat_natCast, getD_get hlt]
    by_cases k0 : Row.I r1[q] 0 = 0
    · have k0' : (Row.I r1[q] 0 == 0) = true := by simpa using k0
      obtain ⟨ba, ra, a1, a2, a3, a4⟩ := add_q hn (j0 := Row.I r1[q] 1) (s1 := Row.S r1[q] 2) (s2 := Row.S r1[q] 3) (s3 := Row.S r1[q] 4) (b4 := Row.N r1[q] 5) (b6 := Row.N r1[q] 6) (b8 := b10) (r5 := Row.R r1[q] 5) (r7 := Row.R r1[q] 6) (r9 := r11) x1 x2 x3 x4 x5 h11 (by omega) ha hw
      obtain ⟨bc, rc, c1, c2, c3⟩ := refAdd_q hn (j0 := Row.I r1[q] 1) (s1 := Row.S r1[q] 2) (s2 := Row.S r1[q] 3) (s3 := Row.S r1[q] 4) (b4 := Row.N r1[q] 5) (b6 := Row.N r1[q] 6) (b8 := b62) (r5 := Row.R r1[q] 5) (r7 := Row.R r1[q] 6) (r9 := r63) x1 x2 x3 x4 x5 h63 (by omega)
      rw [he] at c1 c2
      have hi := insO_length (c := ordD) (f := (Row.I r1[q] 1, kf (Row.S r1[q] 2) (Row.S r1[q] 3) (Row.S r1[q] 4) (Row.N r1[q] 5) (Row.R r1[q] 5), (Row.R r1[q] 6).map kr)) (r11.map dr)
      rw [← a2, List.length_map, List.length_map] at hi
      refine cond_eqT k0' (obind_eq a1 (obind_eq c1 (cond_eqF (nb_self _) ?_)))
      refine (tail_q hn (b := ba) (bz := bc) (r := ra) (z := rc) a3 c3 (by omega) (by rw [a2, c2]) x1 hf hfn (fun b r m bz z => z23_l6 n b0 r1 s2 s3 s4 b5 r6 f b r m ((q + 1 : Nat) : Int) bz z)).trans ?_
      exact ih (q + 1) (by omega) f ba bc ra rc (by omega) (by omega) a3 c3 (by rw [a2]; exact insO_asc ordD_ord ha) (by rw [a2, c2]) a4
    · have k0' : (Row.I r1[q] 0 == 0) = false := by simpa using k0
      refine cond_eqF k0' ?_
      obtain ⟨ba, ra, a1, a2, a3, a4⟩ := drop_q hn (j0 := Row.I r1[q] 1) (s1 := Row.S r1[q] 2) (s2 := Row.S r1[q] 3) (s3 := Row.S r1[q] 4) (b4 := Row.N r1[q] 5) (b6 := Row.N r1[q] 6) (b8 := b10) (r5 := Row.R r1[q] 5) (r7 := Row.R r1[q] 6) (r9 := r11) h11 (by omega) ha hw
      have hi : (remO ordD (Row.I r1[q] 1, kf (Row.S r1[q] 2) (Row.S r1[q] 3) (Row.S r1[q] 4) (Row.N r1[q] 5) (Row.R r1[q] 5), (Row.R r1[q] 6).map kr) (r11.map dr)).length ≤ (r11.map dr).length := List.length_filter_le ..
      rw [← a2, List.length_map, List.length_map] at hi
      by_cases k1 : Row.I r1[q] 0 = 1
      · have k1' : (Row.I r1[q] 0 == 1) = true := by simpa using k1
        obtain ⟨bc, rc, c1, c2, c3⟩ := refDrop_q hn (j0 := Row.I r1[q] 1) (s1 := Row.S r1[q] 2) (s2 := Row.S r1[q] 3) (s3 := Row.S r1[q] 4) (b4 := Row.N r1[q] 5) (b6 := Row.N r1[q] 6) (b8 := b62) (r5 := Row.R r1[q] 5) (r7 := Row.R r1[q] 6) (r9 := r63) h63 (by omega) (by rw [he]; exact ha)
        rw [he] at c1 c2
        refine cond_eqT k1' (obind_eq a1 (obind_eq c1 (cond_eqF (nb_self _) ?_)))
        refine (tail_q hn (b := ba) (bz := bc) (r := ra) (z := rc) a3 c3 (by omega) (by rw [a2, c2]) x1 hf hfn (fun b r m bz z => z23_l6 n b0 r1 s2 s3 s4 b5 r6 f b r m ((q + 1 : Nat) : Int) bz z)).trans ?_
        exact ih (q + 1) (by omega) f ba bc ra rc (by omega) (by omega) a3 c3 (by rw [a2]; exact remO_asc ha) (by rw [a2, c2]) a4
      · have k1' : (Row.I r1[q] 0 == 1) = false := by simpa using k1
        refine cond_eqF k1' ?_
        have hnext := ih (q + 1) (by omega) f b10 b62 r11 r63 (by omega) (by omega) h11 h63 ha he hw
        by_cases k2 : Row.I r1[q] 0 = 2
        · have k2' : (Row.I r1[q] 0 == 2) = true := by simpa using k2
          obtain ⟨y, hy⟩ := add_any hn (j0 := 77) (s1 := s2) (s2 := s3) (s3 := s4) (b4 := b5) (b8 := ba) (r5 := r6) (r9 := ra) hf32 hw6 a3 (by omega) (by rw [a2]; exact remO_asc ha) a4
          refine cond_eqT k2' (obind_eq (bclone_q hn (by omega) hw) (obind_eq a1 (obind_eq hy ?_)))
          refine (tail_q hn (b := b10) (bz := b62) (r := r11) (z := r63) h11 h63 (by omega) he x1 hf hfn (fun b r m bz z => z23_l6 n b0 r1 s2 s3 s4 b5 r6 f b r m ((q + 1 : Nat) : Int) bz z)).trans ?_
          exact hnext
        · have k2' : (Row.I r1[q] 0 == 2) = false := by simpa using k2
          refine cond_eqF k2' ?_
          refine (tail_q hn (b := b10) (bz := b62) (r := r11) (z := r63) h11 h63 (by omega) he x1 hf hfn (fun b r m bz z => z23_l6 n b0 r1 s2 s3 s4 b5 r6 f b r m ((q + 1 : Nat) : Int) bz z)).trans ?_
          exact hnext
end
theorem z23_pure (b0 : Bool) (r1 : Rows) (s2 s3 s4 : ByteArray) (b5 : Bool) (r6 : Rows) (h1 : Fsl b0 kA r1) (_ : s2.size ≤ reachBytes) (_ : s3.size ≤ reachBytes) (_ : s4.size ≤ reachBytes) (h6 : Fsl b5 kC r6) : ∃ n, z23_v n b0 r1 s2 s3 s4 b5 r6 = some (true, ()) := by
  refine ⟨2000 + r1.length + r6.length + szD (r1.map actD), ?_⟩
  generalize hN : 2000 + r1.length + r6.length + szD (r1.map actD) = n
  have hn : 1000 < n := by omega
  have h6l := h6.1
  have h6k := h6.2.2.2
  rw [kbytes_kC] at h6k
  unfold reachBytes at h6l h6k
  have hlive := live16 (n := n) (by omega)
  obtain ⟨z, z1, z2⟩ := light_q hn (b0 := b0) (r1 := r1) h1.2.2.1 (by omega) (by omega)
  rw [z23_e]
  refine obind_eq z1 ?_
  cases z with
  | false => exact cond_eqT rfl (obind_eq hlive rfl)
  | true =>
    obtain ⟨a1, a2⟩ := z2 rfl
    refine cond_eqF rfl (obind_eq (z52_e _) ?_)
    have := does_loop hn (b0 := b0) (b5 := b5) (r1 := r1) (r6 := r6) (s2 := s2) (s3 := s3) (s4 := s4) (by omega) a1 a2 (by unfold big; omega) (by omega) (by omega) h6.2.1 r1.length 0 (by omega) n true true [] [] (by omega) (Nat.le_refl _) (fun r hr => by cases hr) (fun r hr => by cases hr) List.Pairwise.nil rfl (fun _ => rfl)
    exact this
end Go.Den
