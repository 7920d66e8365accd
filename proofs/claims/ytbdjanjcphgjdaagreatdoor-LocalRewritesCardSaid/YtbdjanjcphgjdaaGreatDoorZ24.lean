import Derived.Test.YtbdjanjcphgjdaaGreatDoorZ05
set_option linter.unusedVariables false
set_option linter.unusedSimpArgs false
set_option linter.unusedSectionVars false
namespace Go.Den
open Go.Proofs

def kd (r : Rows) : Int := Row.I (List.getD r 0 []) 0
def tx (r : Rows) : ByteArray := Row.S (List.getD r 0 []) 1
def nm (r : Rows) : Int := Row.I (List.getD r 0 []) 2
def at_ (j : Int) (r : Rows) : Int := bif r.isEmpty then j else Row.I (List.getD r 0 []) 3
def kept (s : ByteArray) : Bool := s == ByteArray.mk #[115, 97, 121, 115] || s == ByteArray.mk #[116, 111] || s == ByteArray.mk #[97, 116]
def isS (s : ByteArray) (r : Rows) : Bool := tx r == s && (kd r == 5 || kd r == 1 && kept s)
def beg (r : Rows) : Bool := kd r == 2 || kd r == 3 || kd r == 1 && !kept (tx r) || kd r == 4 && !(tx r == ByteArray.mk #[])
abbrev Res (α : Type) := Except (Int × Int × Rows) (α × Rows)
abbrev T4 := ByteArray × Bool × Int × ByteArray × Unit
def bnd {α β : Type} (x : Res α) (f : α → Rows → Res β) : Res β :=
 match x with
 | .ok (v, r) => f v r
 | .error e => .error e
@[simp] theorem bnd_ok {α β : Type} (v : α) (r : Rows) (f : α → Rows → Res β) : bnd (.ok (v, r)) f = f v r := rfl
@[simp] theorem bnd_error {α β : Type} (e : Int × Int × Rows) (f : α → Rows → Res β) : bnd (.error e) f = .error e := rfl
def t0 : T4 := (ByteArray.mk #[], false, 0, ByteArray.mk #[], ())
def tval (r : Rows) : T4 :=
 bif kd r == 2 then (tx r, false, 0, ByteArray.mk #[], ())
 else bif kd r == 3 then (ByteArray.mk #[], true, nm r, ByteArray.mk #[], ())
 else (ByteArray.mk #[], false, 0, tx r, ())
def termP (j : Int) (r : Rows) : Res T4 := bif beg r then .ok (tval r, r.tail) else .error (at_ j r, 80, r)
def mustP (s : ByteArray) (j : Int) (r : Rows) : Res Unit := bif isS s r then .ok ((), r.tail) else .error (at_ j r, 80, r)
def wordP (j : Int) (r : Rows) : Res ByteArray := bif kd r == 1 && !kept (tx r) then .ok (tx r, r.tail) else .error (at_ j r, 80, r)
@[reducible] def row4 (t : T4) : Row := [.val (.string t.1), .val (.bool t.2.1), .val (.int .i64 t.2.2.1), .val (.string t.2.2.2.1)]
@[reducible] def sO : ByteArray := ByteArray.mk #[40]
@[reducible] def sC : ByteArray := ByteArray.mk #[41]
@[reducible] def sComma : ByteArray := ByteArray.mk #[44]
@[reducible] def sDot : ByteArray := ByteArray.mk #[46]
@[reducible] def sSays : ByteArray := ByteArray.mk #[115, 97, 121, 115]
@[reducible] def sTo : ByteArray := ByteArray.mk #[116, 111]
@[reducible] def sAt : ByteArray := ByteArray.mk #[97, 116]
@[reducible] def sColon : ByteArray := ByteArray.mk #[58]
@[reducible] def sIf : ByteArray := ByteArray.mk #[58, 45]
def argsL : Nat → Int → Rows → Rows → Res Rows
 |0, j, r, _ => .error (at_ j r, 80, r)
 |k + 1, j, r, acc =>
  bif beg r && acc.length == 4 then .error (at_ j r, 81, r)
  else bnd (termP j r) fun t r => bif isS sC r then .ok (acc ++ [row4 t], r.tail) else bnd (mustP sComma j r) fun _ r => argsL k j r (acc ++ [row4 t])
def argsP (j : Int) (r : Rows) : Res Rows := bnd (mustP sO j r) fun _ r => bif isS sC r then .ok ([], r.tail) else argsL 5 j r []
abbrev L10 := ByteArray × Bool × Int × ByteArray × ByteArray × (Bool × Rows) × ByteArray × Bool × Int × ByteArray × Unit
def mkL (by_ : T4) (pred : ByteArray) (args : Rows) (at' : T4) : L10 :=
 (by_.1, by_.2.1, by_.2.2.1, by_.2.2.2.1, pred, (args.isEmpty, args), at'.1, at'.2.1, at'.2.2.1, at'.2.2.2.1, ())
def litB (by_ : T4) (j : Int) (r : Rows) : Res L10 :=
 bnd (wordP j r) fun p r => bnd (argsP j r) fun a r => bif isS sAt r then bnd (termP j r.tail) fun t r => .ok (mkL by_ p a t, r) else .ok (mkL by_ p a t0, r)
def said (r : Rows) : Bool := decide ((r.length : Int) > 1) && Row.I (List.getD r 1 []) 0 == 1 && Row.S (List.getD r 1 []) 1 == sSays
def litP (j : Int) (r : Rows) : Res L10 :=
 bif said r || kd r != 1 then bnd (termP j r) fun t r => bnd (mustP sSays j r) fun _ r => litB t j r
 else litB t0 j r
@[reducible] def ks4 : List Kd := [Kd.s, Kd.b, Kd.i IntKind.i64, Kd.s]
@[reducible] def ks10 : List Kd := [Kd.s, Kd.b, Kd.i IntKind.i64, Kd.s, Kd.s, Kd.sl ks4, Kd.s, Kd.b, Kd.i IntKind.i64, Kd.s]
@[reducible] def row10 (x : L10) : Row := [.val (.string x.1), .val (.bool x.2.1), .val (.int .i64 x.2.2.1), .val (.string x.2.2.2.1), .val (.string x.2.2.2.2.1), .sl x.2.2.2.2.2.1.1 ks4 x.2.2.2.2.2.1.2,
 .val (.string x.2.2.2.2.2.2.1), .val (.bool x.2.2.2.2.2.2.2.1), .val (.int .i64 x.2.2.2.2.2.2.2.2.1), .val (.string x.2.2.2.2.2.2.2.2.2.1)]
def bodyL : Nat → Int → Rows → Rows → Res Rows
 |0, j, r, _ => .error (at_ j r, 80, r)
 |k + 1, j, r, acc =>
  bif beg r && acc.length == 4 then .error (at_ j r, 81, r)
  else bnd (litP j r) fun t r => bif isS sDot r then .ok (acc ++ [row10 t], r.tail) else bnd (mustP sComma j r) fun _ r => bodyL k j r (acc ++ [row10 t])
abbrev R11 := ByteArray × Bool × Int × ByteArray × ByteArray × (Bool × Rows) × ByteArray × Bool × Int × ByteArray × (Bool × Rows) × Unit
def mkR (home : T4) (pred : ByteArray) (args : Rows) (to : T4) (body : Rows) : R11 :=
 (home.1, home.2.1, home.2.2.1, home.2.2.2.1, pred, (args.isEmpty, args), to.1, to.2.1, to.2.2.1, to.2.2.2.1, (body.isEmpty, body), ())
def ruleB (home : T4) (pred : ByteArray) (args : Rows) (to : T4) (j : Int) (r : Rows) : Res R11 :=
 bnd (mustP sIf j r) fun _ r => bnd (bodyL 5 j r []) fun b r => .ok (mkR home pred args to b, r)
def ruleP (j : Int) (r : Rows) : Res R11 :=
 bnd (termP j r) fun h r => bnd (mustP sColon j r) fun _ r => bnd (wordP j r) fun p r => bnd (argsP j r) fun a r =>
  bif isS sTo r then bnd (termP j r.tail) fun t r => ruleB h p a t j r else ruleB h p a t0 j r
@[reducible] def row11 (x : R11) : Row := [.val (.string x.1), .val (.bool x.2.1), .val (.int .i64 x.2.2.1), .val (.string x.2.2.2.1), .val (.string x.2.2.2.2.1), .sl x.2.2.2.2.2.1.1 ks4 x.2.2.2.2.2.1.2,
 .val (.string x.2.2.2.2.2.2.1), .val (.bool x.2.2.2.2.2.2.2.1), .val (.int .i64 x.2.2.2.2.2.2.2.2.1), .val (.string x.2.2.2.2.2.2.2.2.2.1), .sl x.2.2.2.2.2.2.2.2.2.2.1.1 ks10 x.2.2.2.2.2.2.2.2.2.2.1.2]
def progL : Nat → Int → Rows → Rows → Except (Int × Int) Rows
 |0, j, r, _ => .error (at_ j r, 80)
 |k + 1, j, r, acc =>
  bif r.isEmpty then .ok acc
  else bif beg r && acc.length == 16 then .error (at_ j r, 81)
  else match ruleP j r with
   | .ok (x, r) => progL k j r (acc ++ [row11 x])
   | .error (a, e, _) => .error (a, e)
def progP (j : Int) (r : Rows) : Except (Int × Int) Rows := progL 17 j r []

abbrev PSt := ((Bool × Rows) × Int × Unit) × Unit
def encP {α : Type} (d : α) (b : Bool) (j : Int) : Res α → Bool × α × (Int × Int × Unit) × PSt
 | .ok (v, r) => (false, v, (0, 0, ()), (((b, r), j, ()), ()))
 | .error (a, e, r) => (true, d, (a, e, ()), (((b, r), j, ()), ()))
@[simp] theorem encP_ok {α : Type} (d : α) (b : Bool) (j : Int) (v : α) (r : Rows) : encP d b j (.ok (v, r)) = (false, v, (0, 0, ()), (((b, r), j, ()), ())) := rfl
@[simp] theorem encP_error {α : Type} (d : α) (b : Bool) (j a e : Int) (r : Rows) : encP d b j (.error (a, e, r)) = (true, d, (a, e, ()), (((b, r), j, ()), ())) := rfl

theorem kept_p (n : Nat) (s : ByteArray) : z65_v n s = some (kept s, ()) := by
 rw [z65_e]; unfold kept
 cases s == ByteArray.mk #[115, 97, 121, 115] <;> cases s == ByteArray.mk #[116, 111] <;> cases s == ByteArray.mk #[97, 116] <;> rfl
theorem next_p (n : Nat) (b : Bool) (r : Rows) (j : Int) : z91_v n b r j = some ((kd r, tx r, nm r, at_ j r, ()), (((b, r), j, ()), ())) := by
 rw [z91_e]
 cases r with
 |nil => rfl
 |cons t r =>
  rw [show ((((t :: r).length : Nat) : Int) == 0) = false from by simp; omega, cond_false, if_pos (by simp)]; rfl
theorem drop_tail (r : Rows) : List.drop 1 (List.take (Int.toNat ((r.length : Nat) : Int)) r) = r.tail := by simp
@[simp] theorem kd_nil : kd [] = 0 := rfl
theorem beg_ne {r : Rows} (h : beg r = true) : 1 ≤ ((r.length : Nat) : Int) := by
 cases r with
 |nil => simp [beg] at h
 |cons t r => simp; omega
theorem isS_ne {s : ByteArray} {r : Rows} (h : isS s r = true) : 1 ≤ ((r.length : Nat) : Int) := by
 cases r with
 |nil => simp [isS] at h
 |cons t r => simp; omega
theorem word_ne {r : Rows} (h : (kd r == 1) = true) : 1 ≤ ((r.length : Nat) : Int) := by
 cases r with
 |nil => simp at h
 |cons t r => simp; omega
theorem begins_p (n : Nat) (b : Bool) (r : Rows) (j : Int) : z71_v n b r j = some (beg r, (((b, r), j, ()), ())) := by
 rw [z71_e, next_p]
 simp only [obind_some, kept_p]
 unfold beg
 cases kd r == 2 <;> cases kd r == 3 <;> cases kd r == 1 <;> cases kept (tx r) <;> cases kd r == 4 <;> rfl
theorem fail_p (n : Nat) (c : Int) (b : Bool) (r : Rows) (j : Int) : z101_v n c b r j = some (true, (), (at_ j r, c, ()), (((b, r), j, ()), ())) := by
 rw [z101_e, next_p]; rfl
theorem term_p (n : Nat) (b : Bool) (r : Rows) (j : Int) : z92_v n b r j = some (encP t0 b j (termP j r)) := by
 rw [z92_e, begins_p]
 simp only [obind_some, fail_p, next_p]
 unfold termP
 cases h : beg r with
 |false => rfl
 |true =>
  simp only [Bool.not_true, cond_false, cond_true]
  rw [if_pos (beg_ne h), if_pos (Int.le_refl _), drop_tail]
  unfold tval
  cases kd r == 2 <;> cases kd r == 3 <;> rfl
theorem is_p (n : Nat) (s : ByteArray) (b : Bool) (r : Rows) (j : Int) : z102_v n s b r j = some (isS s r, (((b, r), j, ()), ())) := by
 rw [z102_e, next_p]
 simp only [obind_some, kept_p]
 unfold isS
 cases tx r == s <;> cases kd r == 5 <;> cases kd r == 1 <;> cases kept s <;> rfl
def tailIf (c : Bool) (r : Rows) : Rows := bif c then r.tail else r
theorem pass_p (n : Nat) (s : ByteArray) (b : Bool) (r : Rows) (j : Int) : z99_v n s b r j = some (isS s r, (((b, tailIf (isS s r) r), j, ()), ())) := by
 rw [z99_e, is_p]
 simp only [obind_some]
 cases h : isS s r with
 |false => rfl
 |true =>
  simp only [Bool.not_true, cond_false]
  rw [if_pos (isS_ne h), if_pos (Int.le_refl _), drop_tail]; rfl
theorem must_p (n : Nat) (s : ByteArray) (b : Bool) (r : Rows) (j : Int) : z94_v n s b r j = some (encP () b j (mustP s j r)) := by
 rw [z94_e, pass_p]
 simp only [obind_some, fail_p]
 unfold mustP
 cases h : isS s r <;> rfl
theorem word_p (n : Nat) (b : Bool) (r : Rows) (j : Int) : z98_v n b r j = some (encP (ByteArray.mk #[]) b j (wordP j r)) := by
 rw [z98_e, next_p]
 simp only [obind_some, fail_p, kept_p]
 unfold wordP
 cases h : kd r == 1 with
 |false => simp only [bne, h]; rfl
 |true =>
  simp only [bne, h, Bool.not_true, cond_false, Bool.true_and]
  cases kept (tx r) with
  |true => rfl
  |false =>
   simp only [cond_false, Bool.not_false, cond_true]
   rw [if_pos (word_ne h), if_pos (Int.le_refl _), drop_tail]; rfl
theorem small_app {l : Rows} {x : Row} {c : Nat} (h : l.length ≤ 16) (hc : c ≤ 1000) : (List.length l + List.length [x]) * c ≤ 140737488355328 := by
 have : (List.length l + List.length [x]) * c ≤ 17 * 1000 := Nat.mul_le_mul (by simp; omega) hc
 omega
theorem len_eq (l : Rows) (k : Nat) : (((l.length : Nat) : Int) == (k : Int)) = (l.length == k) := by
 rw [Bool.eq_iff_iff]; simp; omega
theorem termP_t {j : Int} {r : Rows} (h : beg r = true) : termP j r = .ok (tval r, r.tail) := by simp [termP, h]
theorem termP_f {j : Int} {r : Rows} (h : beg r = false) : termP j r = .error (at_ j r, 80, r) := by simp [termP, h]
theorem mustP_t {s : ByteArray} {j : Int} {r : Rows} (h : isS s r = true) : mustP s j r = .ok ((), r.tail) := by simp [mustP, h]
theorem mustP_f {s : ByteArray} {j : Int} {r : Rows} (h : isS s r = false) : mustP s j r = .error (at_ j r, 80, r) := by simp [mustP, h]
theorem app_isEmpty (l : Rows) (x : Row) : (l ++ [x]).isEmpty = false := by simp
theorem args_l (n : Nat) (b0 : Bool) (r0 : Rows) (j0 : Int) : ∀ (k i : Nat) (b : Bool) (r : Rows) (j : Int) (nl : Bool) (acc : Rows), acc.length + k = 4 → k < i →
  z100_l5 n b0 r0 j0 i b r j nl acc = some (encP (true, []) b j (bnd (argsL (k + 1) j r acc) fun a r => .ok ((a.isEmpty, a), r))) := by
 intro k
 induction k with
 |zero =>
  intro i b r j nl acc h hi
  obtain ⟨i, rfl⟩ : ∃ q, i = q + 1 := ⟨i - 1, by omega⟩
  rw [z100_s5, begins_p]
  simp only [obind_some, fail_p, argsL]
  have hl : (((acc.length : Nat) : Int) == 4) = true := by simp; omega
  have hl' : (acc.length == 4) = true := by simp; omega
  cases hb : beg r with
  |false => rw [term_p, termP_f hb]; rfl
  |true => simp only [hl, hl', Bool.and_self, cond_true]; rfl
 |succ k ih =>
  intro i b r j nl acc h hi
  obtain ⟨i, rfl⟩ : ∃ q, i = q + 1 := ⟨i - 1, by omega⟩
  rw [z100_s5, begins_p]
  simp only [obind_some, fail_p]
  unfold argsL
  have hl : (((acc.length : Nat) : Int) == 4) = false := by simp; omega
  have hl' : (acc.length == 4) = false := by simp; omega
  cases hb : beg r with
  |false => rw [term_p, termP_f hb]; rfl
  |true =>
   simp only [hl, hl', Bool.and_false, cond_true, cond_false, term_p, termP_t hb, encP_ok, obind_some, pass_p, bnd_ok]
   rw [if_pos (small_app (by omega) (by omega))]
   cases hc : isS sC r.tail with
   |true =>
    simp only [cond_true, bnd_ok, encP_ok, app_isEmpty, List.isEmpty_cons, Bool.and_false]
    rfl
   |false =>
    simp only [cond_false, tailIf, must_p]
    cases hm : isS sComma r.tail with
    |false => rw [mustP_f hm]; rfl
    |true =>
     rw [mustP_t hm]
     simp only [encP_ok, obind_some, cond_false, bnd_ok]
     exact ih i b _ j _ _ (by simp; omega) (by omega)
theorem args_p (n : Nat) (hn : 5 ≤ n) (b : Bool) (r : Rows) (j : Int) : z100_v n b r j = some (encP (true, []) b j (bnd (argsP j r) fun a r => .ok ((a.isEmpty, a), r))) := by
 rw [z100_e, must_p]
 unfold argsP
 cases hm : isS sO r with
 |false => rw [mustP_f hm]; rfl
 |true =>
  rw [mustP_t hm]
  simp only [encP_ok, obind_some, cond_false, bnd_ok, pass_p]
  cases hc : isS sC r.tail with
  |true => rfl
  |false =>
   simp only [cond_false, tailIf]
   exact args_l n b r j 4 n b _ j true [] rfl (by omega)
end Go.Den
