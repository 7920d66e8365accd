import Derived.Test.YtlpnccpagikioaaDoorDen6
set_option linter.unusedVariables false
set_option linter.unusedSimpArgs false
set_option linter.unusedSectionVars false
/- Binary operations. -/
namespace Go.Den
variable {x : X} {w : World} {P : Program}

theorem toList_beq (a b : ByteArray) : (a.toList == b.toList) = (a == b) := (beq_toListBytes a b).symm

theorem nilOp_run {op : BinOp} {n : Bool} {r : AV} (h : nilOp op n = some r) : (op = .eql ∧ r = .B n) ∨ (op = .neq ∧ r = .B (!n)) := by
  cases op <;> simp [nilOp] at h
  · exact .inl ⟨rfl, h.symm⟩
  · exact .inr ⟨rfl, h.symm⟩

/-- '==' and '!=' that go by the type. -/
theorem eq_run {op : BinOp} {n : Bool} {r : AV} (h : nilOp op n = some r) {t : TypeId} {ox oy : Operand} {u v : Value}
    (hg : (eqGuard op t ox oy u v).run P w = .ok () w) (he : (Op.equal t u v).run P w = .ok n w)
    (hb : ∀ op, op = .eql ∨ op = .neq → binOp op t u v = if op = .eql then (do pure (.bool (← Op.equal t u v))) else (do pure (.bool (!(← Op.equal t u v))))) (x : X) :
    ∃ z, (do eqGuard op t ox oy u v; binOp op t u v : Sem Value).run P w = .ok z w ∧ Rep x r z := by
  rcases nilOp_run h with ⟨rfl, rfl⟩ | ⟨rfl, rfl⟩
  · refine ⟨_, ?_, rep_val x rfl⟩
    simp only [Sem.run_bind, hg, Result.andThen_ok, hb _ (.inl rfl), if_true, he, Sem.run_pure]
  · refine ⟨_, ?_, rep_val x rfl⟩
    simp only [Sem.run_bind, hg, Result.andThen_ok, hb _ (.inr rfl), if_false, he, Sem.run_pure, reduceCtorEq]

theorem eq_bool (d : Nat) {t : TypeId} (ht : P.underlying t = some .bool) (p q : Bool) : (Op.equalIn (d + 1) t (.bool p) (.bool q)).run P w = .ok (p == q) w := by
  simp [Op.equalIn, run_underlying ht]
theorem eq_slice (d : Nat) {t el : TypeId} (ht : P.underlying t = some (.slice el)) (a : Option Addr) (q c : Nat) : (Op.equalIn (d + 1) t (.slice a q c) (.slice none 0 0)).run P w = .ok a.isNone w := by
  cases a <;> simp [Op.equalIn, run_underlying ht]
theorem eq_ptr (d : Nat) {t el : TypeId} (ht : P.underlying t = some (.pointer el)) (a : Addr) : (Op.equalIn (d + 1) t (.pointer (some a)) (.pointer none)).run P w = .ok false w := by
  simp [Op.equalIn, run_underlying ht]
theorem eq_fn (d : Nat) {t : TypeId} {p1 p2 : Array TypeId} {p3 : Bool} (ht : P.underlying t = some (.func p1 p2 p3)) (f : Fn) (a b : Array Value) : (Op.equalIn (d + 1) t (.func f a b) .nilFunc).run P w = .ok false w := by
  simp [Op.equalIn, run_underlying ht]
theorem eq_ifc (d : Nat) {t : TypeId} {ms : Array (String × TypeId)} (ht : P.underlying t = some (.interface ms)) (ty : TypeId) (z : Value) : (Op.equalIn (d + 1) t (.iface ty z) .nilIface).run P w = .ok false w := by
  simp [Op.equalIn, run_underlying ht]

theorem eq_nifc (d : Nat) {t : TypeId} {ms : Array (String × TypeId)} (ht : P.underlying t = some (.interface ms)) : (Op.equalIn (d + 1) t .nilIface .nilIface).run P w = .ok true w := by
  simp [Op.equalIn, run_underlying ht]
theorem guard_nifc (d : Nat) {t : TypeId} (ht : P.underlying t = some (.interface #[])) : (Op.eqGuardIn (d + 1) t .nilIface .nilIface).run P w = .ok false w := by
  simp [Op.eqGuardIn, run_underlying ht]
theorem eq_nfn (d : Nat) {t : TypeId} {p1 p2 : Array TypeId} {p3 : Bool} (ht : P.underlying t = some (.func p1 p2 p3)) : (Op.equalIn (d + 1) t .nilFunc .nilFunc).run P w = .ok true w := by
  simp [Op.equalIn, run_underlying ht]
theorem eq_nptr (d : Nat) {t el : TypeId} (ht : P.underlying t = some (.pointer el)) : (Op.equalIn (d + 1) t (.pointer none) (.pointer none)).run P w = .ok true w := by
  simp [Op.equalIn, run_underlying ht]
theorem eq_ptrs (d : Nat) {t el : TypeId} {n : Nat} (ht : P.underlying t = some (.pointer el)) (hn : size? P el = some n) (b o : Nat) : (Op.equalIn (d + 1) t (.pointer (some ⟨b, o, none⟩)) (.pointer (some ⟨b, o, none⟩))).run P w = .ok true w := by
  simp [Op.equalIn, run_underlying ht, run_size hn, sameAddr]

theorem bin_sound {op : BinOp} {t : TypeId} {av bv : AV} {r : AV} (h : binE P op t av bv = some r) {u v : Value} (hu : Rep x av u) (hv : Rep x bv v) (ox oy : Operand) :
    ∃ z, (do eqGuard op t ox oy u v; binOp op t u v : Sem Value).run P w = .ok z w ∧ Rep x r z := by
  unfold binE at h
  split at h
  · rename_i k p j q
    obtain rfl := Rep.val hu; obtain rfl := Rep.val hv
    split at h
    · rename_i hk; subst hk
      cases op <;> simp only [arith, Option.some.injEq, reduceCtorEq] at h <;> subst h <;>
        exact ⟨_, by simp [eqGuard, binOp, Op.intArith, Op.intCmp, Op.intBits]; done, rep_val x rfl⟩
    · cases h
  · rename_i p q
    obtain rfl := Rep.val hu; obtain rfl := Rep.val hv
    cases op <;> simp only [strOp, Option.some.injEq, reduceCtorEq] at h <;> subst h <;>
      exact ⟨_, by simp [eqGuard, binOp, Op.stringOp, toList_beq]; done, rep_val x rfl⟩
  · rename_i p q
    obtain rfl := Rep.val hu; obtain rfl := Rep.val hv
    split at h
    · rename_i ht
      refine eq_run h (by rcases nilOp_run h with ⟨rfl, _⟩ | ⟨rfl, _⟩ <;> simp [eqGuard]) ?_ ?_ x
      · exact eq_bool 9999 ht p q
      · rintro op (rfl | rfl) <;> simp [binOp]
    · cases h
  · rename_i l l'
    split at h
    · rename_i fs ks hfs hks
      split at h
      · cases h
      · rename_i hg
        split at h
        · rename_i r0 hr0
          cases hu with | agg _ us hu => ?_
          cases hv with | agg _ vs hv => ?_
          have hag : agg? P t = some true := agg_struct hfs
          obtain ⟨⟨_, q2⟩, _⟩ := plainKds_sound (x := x) (w := w) 9 t ks hks Op.maxDepth (by simp [Op.maxDepth])
          have he := q2 hag l l' ⟨us⟩ ⟨vs⟩ r0 hr0 hu hv
          refine eq_run h ?_ he ?_ x
          · rcases nilOp_run h with ⟨rfl, _⟩ | ⟨rfl, _⟩ <;> simp [eqGuard, hg]
          · rintro op (rfl | rfl) <;> simp [binOp]
        · cases h
    · cases h
  · rename_i n ks rows r0 ks'
    split at h
    · rename_i el ht
      cases hu with | sl _ _ _ _ _ hu _ => ?_
      cases hv with | sl _ _ _ _ _ hv _ => ?_
      have hv' : v = .slice none 0 0 := by
        rcases hv.rows with ⟨_, _, rfl⟩ | ⟨_, _, h1, _⟩
        · rfl
        · cases h1
      subst hv'
      have hu' : ∃ a q c, u = .slice a q c ∧ n = a.isNone := by
        rcases hu.rows with ⟨h1, _, rfl⟩ | ⟨a, c, h1, rfl, _⟩
        · exact ⟨none, 0, 0, rfl, h1⟩
        · exact ⟨some a, _, c, rfl, h1⟩
      obtain ⟨a, q, c, rfl, rfl⟩ := hu'
      refine eq_run h (by rcases nilOp_run h with ⟨rfl, _⟩ | ⟨rfl, _⟩ <;> simp [eqGuard]) ?_ ?_ x
      · exact eq_slice 9999 ht a q c
      · rintro op (rfl | rfl) <;> simp [binOp]
    · cases h
  · rename_i k ks' off n c ks0
    split at h
    · rename_i el ht
      cases hv with | sl _ _ _ _ _ hv _ => ?_
      have hv' : v = .slice none 0 0 := by
        rcases hv.rows with ⟨_, _, rfl⟩ | ⟨_, _, h1, _⟩
        · rfl
        · cases h1
      subst hv'
      cases hu with | ms _ _ _ _ _ b o c' hb _ _ _ => ?_
      refine eq_run h (by rcases nilOp_run h with ⟨rfl, _⟩ | ⟨rfl, _⟩ <;> simp [eqGuard]) ?_ ?_ x
      · exact eq_slice 9999 ht (some _) _ _
      · rintro op (rfl | rfl) <;> simp [binOp]
    · cases h
  · rename_i k off
    split at h
    · rename_i el ht
      obtain rfl := Rep.val hv
      cases hu with | pl _ _ b hb => ?_
      refine eq_run h (by rcases nilOp_run h with ⟨rfl, _⟩ | ⟨rfl, _⟩ <;> simp [eqGuard]) ?_ ?_ x
      · exact eq_ptr 9999 ht _
      · rintro op (rfl | rfl) <;> simp [binOp]
    · cases h
  · rename_i f cs
    split at h
    · rename_i p1 p2 p3 ht
      obtain rfl := Rep.val hv
      cases hu with | fn _ _ vs _ => ?_
      refine eq_run h (by rcases nilOp_run h with ⟨rfl, _⟩ | ⟨rfl, _⟩ <;> simp [eqGuard]) ?_ ?_ x
      · exact eq_fn 9999 ht _ _ _
      · rintro op (rfl | rfl) <;> simp [binOp]
    · cases h
  · rename_i ty a
    split at h
    · rename_i ms ht
      obtain rfl := Rep.val hv
      cases hu with | ifc _ _ z hz => ?_
      refine eq_run h (by rcases nilOp_run h with ⟨rfl, _⟩ | ⟨rfl, _⟩ <;> simp [eqGuard]) ?_ ?_ x
      · exact eq_ifc 9999 ht _ _
      · rintro op (rfl | rfl) <;> simp [binOp]
    · cases h
  · obtain rfl := Rep.val hu; obtain rfl := Rep.val hv
    split at h
    · rename_i ms ht
      split at h
      · rename_i hms
        have hms' : ms = #[] := by cases ms; simp at hms; simp [hms]
        subst hms'
        have hg : (Op.eqGuardIn Op.maxDepth t .nilIface .nilIface).run P w = .ok false w := guard_nifc 9999 ht
        refine eq_run h ?_ (eq_nifc 9999 ht) ?_ x
        · rcases nilOp_run h with ⟨rfl, _⟩ | ⟨rfl, _⟩ <;> simp [eqGuard, hg]
        · rintro op (rfl | rfl) <;> simp [binOp]
      · cases h
    · cases h
  · obtain rfl := Rep.val hu; obtain rfl := Rep.val hv
    split at h
    · rename_i p1 p2 p3 ht
      refine eq_run h (by rcases nilOp_run h with ⟨rfl, _⟩ | ⟨rfl, _⟩ <;> simp [eqGuard]) ?_ ?_ x
      · exact eq_nfn 9999 ht
      · rintro op (rfl | rfl) <;> simp [binOp]
    · cases h
  · obtain rfl := Rep.val hu; obtain rfl := Rep.val hv
    split at h
    · rename_i el ht
      refine eq_run h (by rcases nilOp_run h with ⟨rfl, _⟩ | ⟨rfl, _⟩ <;> simp [eqGuard]) ?_ ?_ x
      · exact eq_nptr 9999 ht
      · rintro op (rfl | rfl) <;> simp [binOp]
    · cases h
  · rename_i k off k' off'
    split at h
    · rename_i el ht
      split at h
      · rename_i n hn hkk
        simp only [Bool.and_eq_true, beq_eq] at hkk
        obtain ⟨rfl, rfl⟩ := hkk
        cases hu with | pl _ _ b hb => ?_
        cases hv with | pl _ _ b' hb' => ?_
        rw [hb] at hb'
        obtain rfl := Option.some.inj hb'
        refine eq_run h (by rcases nilOp_run h with ⟨rfl, _⟩ | ⟨rfl, _⟩ <;> simp [eqGuard]) ?_ ?_ x
        · exact eq_ptrs 9999 ht hn _ _
        · rintro op (rfl | rfl) <;> simp [binOp]
      · cases h
    · cases h
  · cases h
end Go.Den
