import Derived.Test.YtbdjanjcphgjdaaGreatDoorZ11
import Derived.Test.YtbdjanjcphgjdaaGreatDoorZ12
set_option linter.unusedVariables false
set_option linter.unusedSimpArgs false
set_option linter.unusedSectionVars false
namespace Go.Den
open Go.Proofs
def nilT (t : Tm) : Bool := t.1 == ByteArray.mk #[] && (t.2.1 == false && (t.2.2.1 == 0 && (t.2.2.2 == ByteArray.mk #[] && true)))
def term1 (t : Tm) : Option ByteArray := bif (termS t.1 t.2.1 t.2.2.1 t.2.2.2).1.2.1 == 0 then some (termS t.1 t.2.1 t.2.2.1 t.2.2.2).1.1 else none
def tx1 (t : Tm) : ByteArray := (term1 t).getD noB
theorem termS_eq (t : Tm) : termS t.1 t.2.1 t.2.2.1 t.2.2.2 = match term1 t with | some s => ((s, (0, ())), ()) | none => ((noB, (100, ())), ()) := by
 obtain ⟨s0, b1, j2, s3⟩ := t
 unfold term1 termS shownS
 cases !s0 == noB <;> cases (b1 == false && (j2 == 0 && s3 == noB) && namedS isGreat s0) <;> cases b1 <;> cases s3 == noB <;> cases (j2 == 0 && (plainS s3 && (decide (1 ≤ s3.size) && decide (s3.size ≤ 32)))) <;> cases (namedS isSmall s3 && !keptS s3) <;> rfl
theorem itoa_size {j : Int} (hlo : -9223372036854775808 ≤ j) (hhi : j ≤ 9223372036854775807) : (ByteArray.mk (Go.Lib.itoa j).toArray).size ≤ 40 := by
 show (Go.Lib.itoa j).toArray.size ≤ 40
 rw [List.size_toArray]
 have hp : (10 : Nat) ^ 20 = 100000000000000000000 := by decide
 have h1 := nDigits_le 20 j.natAbs (by omega) (by omega)
 have h2 := nDigits_le 20 j.toNat (by omega) (by omega)
 unfold Go.Lib.itoa
 split
 ·rw [List.length_cons, Go.Lib.decDigits_length]; omega
 ·rw [Go.Lib.decDigits_length]; omega
theorem term1_size {t : Tm} (hlo : -9223372036854775808 ≤ t.2.2.1) (hhi : t.2.2.1 ≤ 9223372036854775807) {s : ByteArray} (h : term1 t = some s) : s.size ≤ 40 := by
 obtain ⟨s0, b1, j2, s3⟩ := t
 unfold term1 termS at h
 simp only at h hlo hhi
 cases h0 : !s0 == noB with
 |true =>
  rw [h0] at h
  simp only [cond_true] at h
  cases h1 : (b1 == false && (j2 == 0 && s3 == noB) && namedS isGreat s0) with
  |true =>
   rw [h1] at h
   simp only [cond_true, beq_self_eq_true] at h
   cases h
   unfold namedS at h1
   simp only [Bool.and_eq_true, decide_eq_true_eq] at h1
   omega
  |false => rw [h1] at h; cases h
 |false =>
  rw [h0] at h
  simp only [cond_false] at h
  cases b1 with
  |true =>
   simp only [cond_true] at h
   cases h1 : s3 == noB with
   |true =>
    rw [h1] at h
    cases h
    exact itoa_size hlo hhi
   |false => rw [h1] at h; cases h
  |false =>
   simp only [cond_false] at h
   cases h1 : (j2 == 0 && (plainS s3 && (decide (1 ≤ s3.size) && decide (s3.size ≤ 32)))) with
   |false => rw [h1] at h; cases h
   |true =>
    rw [h1] at h
    simp only [Bool.and_eq_true, decide_eq_true_eq] at h1
    simp only [cond_true, shownS] at h
    cases h2 : (namedS isSmall s3 && !keptS s3) with
    |true =>
     rw [h2] at h
     simp only [cond_true, beq_self_eq_true, Option.some.injEq] at h
     subst h; omega
    |false =>
     rw [h2] at h
     simp only [cond_false, cond_true, beq_self_eq_true, Option.some.injEq] at h
     subst h
     simp only [ByteArray.size_append]
     have e : (ByteArray.mk #[34]).size = 1 := rfl
     omega
theorem tx1_size {t : Tm} (hlo : -9223372036854775808 ≤ t.2.2.1) (hhi : t.2.2.1 ≤ 9223372036854775807) : (tx1 t).size ≤ 40 := by
 unfold tx1
 cases h : term1 t with
 |none => exact Nat.zero_le _
 |some s => exact term1_size hlo hhi h
structure TmOk (n : Nat) (t : Tm) : Prop where
 lo : -9223372036854775808 ≤ t.2.2.1
 hi : t.2.2.1 ≤ 9223372036854775807
 s : t.2.2.2.size ≤ 140737488351232
 sn : t.2.2.2.size < n
theorem show_T {n : Nat} {t : Tm} (h : TmOk n t) (hn : 10000 < n) : z76_v n t.1 t.2.1 t.2.2.1 t.2.2.2 = some (match term1 t with | some s => ((s, (0, ())), ()) | none => ((noB, (100, ())), ())) := by
 rw [z76_q h.lo h.hi h.s h.sn hn, termS_eq]
theorem ref_T {n : Nat} {t : Tm} (h : TmOk n t) (hn : 10000 < n) : z48_v n t.1 t.2.1 t.2.2.1 t.2.2.2 = some (match term1 t with | some s => ((s, (0, ())), ()) | none => ((noB, (100, ())), ())) := by
 rw [ref_Term_q h.lo h.hi hn, termS_eq]
theorem byteRows_app (a b : ByteArray) : byteRows (a ++ b) = byteRows a ++ byteRows b := by
 unfold byteRows
 rw [ByteArray.data_append, Array.toList_append, List.map_append]
theorem byteRows_len (a : ByteArray) : (byteRows a).length = a.size := by
 unfold byteRows
 rw [List.length_map, Array.length_toList]; rfl
theorem bytesOf_byteRows (a : ByteArray) : bytesOf (byteRows a) = a := by
 unfold bytesOf byteRows
 rw [List.map_map]
 have : ∀ l : List UInt8, l.map ((fun r => UInt8.ofNat (Row.I r 0).toNat) ∘ fun b : UInt8 => [DV.val (Value.int IntKind.u8 (b.toNat : Int))]) = l := by
  intro l
  induction l with
  |nil => rfl
  |cons b l ih =>
   rw [List.map_cons, ih]
   congr 1
   show UInt8.ofNat (Int.toNat (b.toNat : Int)) = b
   rw [Int.toNat_natCast]; exact UInt8.ofNat_toNat
 rw [this, Array.toArray_toList]
theorem okBytes_byteRows (a : ByteArray) : okBytes (byteRows a) = true := by
 unfold byteRows
 generalize a.data.toList = l
 induction l with
 |nil => rfl
 |cons b l ih =>
  simp only [List.map_cons, okBytes, ih, Bool.and_true, Bool.and_eq_true, decide_eq_true_eq]
  have := UInt8.toNat_lt b
  omega
@[reducible] def pst (nl : Bool) (t : ByteArray) (bad : Bool) : Unit × (Unit × (Bool × Rows) × Bool × Unit) × Unit := ((), (((), ((nl, byteRows t), (bad, ()))), ()))
theorem writes_q {n : Nat} {s t : ByteArray} {nl bad : Bool} (h : t.size + s.size ≤ 140737488355328) : z12_v n s nl (byteRows t) bad = some (((s.size : Int), ((), ())), (((), ((nl && s.size == 0, byteRows (t ++ s)), (bad, ()))), ())) := by
 rw [z12_e]
 unfold sB_copyCheck_v
 simp only [obind_some]
 rw [if_pos (by rw [byteRows_len]; omega), byteRows_app]
theorem writes_nilp {n : Nat} {s : ByteArray} {bad : Bool} (h : s.size ≤ 140737488355328) : z1_v n s true [] bad = some (((s.size : Int), ((), ())), (((), ((s.size == 0, byteRows s), (bad, ()))), ())) := by
 rw [z1_e]
 unfold sB_copyCheck_nilp_v
 simp only [obind_some]
 rw [if_pos (by simp; omega)]
 simp [appX]
theorem pterm_q {n : Nat} {ahead t : ByteArray} {a : Tm} {nl bad : Bool} (h : TmOk n a) (hn : 10000 < n) (hs : ahead.size ≤ 1000) (ht : t.size ≤ 10000000) :
  z95_v n ahead a.1 a.2.1 a.2.2.1 a.2.2.2 nl (byteRows t) bad = some (pst (nl && (ahead ++ tx1 a).size == 0) (t ++ (ahead ++ tx1 a)) (bad || (term1 a).isNone)) := by
 have hsz := tx1_size h.lo h.hi
 have h2 : (ahead ++ tx1 a).size = ahead.size + (tx1 a).size := ByteArray.size_append ..
 rw [z95_e, show_T h hn]
 have hw : ∀ b, z12_v n (ahead ++ tx1 a) nl (byteRows t) b = _ := fun b => writes_q (bad := b) (nl := nl) (n := n) (s := ahead ++ tx1 a) (t := t) (by omega)
 unfold tx1 at hw hsz h2 ⊢
 cases h1 : term1 a with
 |some s =>
  rw [h1] at hw hsz h2
  simp only [Option.getD_some] at hw hsz h2 ⊢
  simp only [obind_some, hw, show ahead.size + s.size < 4611686018427387904 by omega, if_true]
  cases bad <;> rfl
 |none =>
  rw [h1] at hw hsz h2
  simp only [Option.getD_none] at hw hsz h2 ⊢
  simp only [obind_some, hw, show ahead.size + noB.size < 4611686018427387904 by omega, if_true]
  cases bad <;> rfl
theorem pterm_nilp {n : Nat} {a : Tm} (h : TmOk n a) (hn : 10000 < n) : ∃ nl,
  z26_v n (ByteArray.mk #[]) a.1 a.2.1 a.2.2.1 a.2.2.2 true [] false = some (pst nl (noB ++ tx1 a) (term1 a).isNone) := by
 have hsz := tx1_size h.lo h.hi
 have h2 : (noB ++ tx1 a).size = noB.size + (tx1 a).size := ByteArray.size_append ..
 have h3 : noB.size = 0 := rfl
 rw [z26_e, show_T h hn]
 have hw : ∀ b, z1_v n (noB ++ tx1 a) true [] b = _ := fun b => writes_nilp (bad := b) (n := n) (s := noB ++ tx1 a) (by omega)
 unfold tx1 at hw hsz h2 ⊢
 cases h1 : term1 a with
 |some s =>
  rw [h1] at hw hsz h2
  simp only [Option.getD_some] at hw hsz h2 ⊢
  simp only [obind_some, cond_false]
  rw [if_pos (by rfl), if_pos (show noB.size + s.size < 4611686018427387904 by omega)]
  have hw' : ∀ b, z1_v n (ByteArray.mk #[] ++ s) true [] b = _ := hw
  rw [hw']
  exact ⟨_, rfl⟩
 |none =>
  rw [h1] at hw hsz h2
  simp only [Option.getD_none] at hw hsz h2 ⊢
  simp only [obind_some, cond_false]
  rw [if_pos (by rfl), if_pos (show noB.size + noB.size < 4611686018427387904 by omega)]
  have hw' : ∀ b, z1_v n (ByteArray.mk #[] ++ noB) true [] b = _ := hw
  rw [hw']
  exact ⟨_, rfl⟩
def pmaybe (ahead : ByteArray) (a : Tm) (behind : ByteArray) (t : ByteArray) (bad : Bool) : ByteArray × Bool :=
 bif nilT a then (t, bad) else (t ++ (ahead ++ tx1 a) ++ behind, bad || (term1 a).isNone)
theorem pmaybe_size {n : Nat} {ahead behind t : ByteArray} {a : Tm} {bad : Bool} (h : TmOk n a) (hs : ahead.size ≤ 10) (hb : behind.size ≤ 10) : (pmaybe ahead a behind t bad).1.size ≤ t.size + 60 := by
 have hsz := tx1_size h.lo h.hi
 unfold pmaybe
 cases nilT a with
 |true => show t.size ≤ _; omega
 |false =>
  show (t ++ (ahead ++ tx1 a) ++ behind).size ≤ _
  simp only [ByteArray.size_append]; omega
theorem pmaybe_q {n : Nat} {ahead behind t : ByteArray} {a : Tm} {nl bad : Bool} (h : TmOk n a) (hn : 10000 < n) (hs : ahead.size ≤ 10) (hb : behind.size ≤ 10) (ht : t.size ≤ 1000000) :
  ∃ nl', z87_v n ahead a.1 a.2.1 a.2.2.1 a.2.2.2 behind nl (byteRows t) bad = some (pst nl' (pmaybe ahead a behind t bad).1 (pmaybe ahead a behind t bad).2) := by
 have hsz := tx1_size h.lo h.hi
 have h2 : (ahead ++ tx1 a).size = ahead.size + (tx1 a).size := ByteArray.size_append ..
 have h3 : (t ++ (ahead ++ tx1 a)).size = t.size + (ahead ++ tx1 a).size := ByteArray.size_append ..
 rw [z87_e]
 unfold pmaybe
 have e : (a.1 == ByteArray.mk #[] && (a.2.1 == false && (a.2.2.1 == 0 && (a.2.2.2 == ByteArray.mk #[] && true)))) = nilT a := rfl
 rw [e]
 cases hn0 : nilT a with
 |true => simp only [Bool.not_true, cond_false, cond_true]; exact ⟨nl, rfl⟩
 |false =>
  simp only [Bool.not_false, cond_true, cond_false]
  rw [pterm_q h hn (by omega) (by omega)]
  simp only [obind_some]
  rw [writes_q (by omega)]
  exact ⟨_, rfl⟩
end Go.Den
