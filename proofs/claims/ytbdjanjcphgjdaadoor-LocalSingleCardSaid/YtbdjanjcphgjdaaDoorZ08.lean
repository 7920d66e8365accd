import Derived.Test.YtbdjanjcphgjdaaDoorZ05
import Derived.KernelRfl
import Derived.Test.YtbdjanjcphgjdaaDoorZ07
set_option linter.unusedVariables false
set_option linter.unusedSimpArgs false
set_option linter.unusedSectionVars false
namespace Go.Den
open Go.Proofs

def kd (r : Rows) : Int := Row.I (List.getD r 0 []) 0
def tx (r : Rows) : ByteArray := Row.S (List.getD r 0 []) 1
def nm (r : Rows) : Int := Row.I (List.getD r 0 []) 2
def at_ (j : Int) (r : Rows) : Int := bif r.isEmpty then j else Row.I (List.getD r 0 []) 3
def kept (s : ByteArray) : Bool := s == ByteArray.mk #[115, 97, 121, 115] || s == ByteArray.mk #[116, 111] || s == ByteArray.mk #[97, 116]
def isS (s : ByteArray) (r : Rows) : Bool := tx r == s && (kd r == 5 || kd r == 1 && kept s)
def beg (r : Rows) : Bool := kd r == 2 || kd r == 3 || kd r == 1 && !kept (tx r) || kd r == 4 && !(tx r == ByteArray.mk #[])
abbrev Res (α : Type) := Except (Int × Int × Rows) (α × Rows)
abbrev T4 := ByteArray × Bool × Int × ByteArray × Unit
def bnd {α β : Type} (x : Res α) (f : α → Rows → Res β) : Res β :=
  match x with
  | .ok (v, r) => f v r
  | .error e => .error e
@[simp] theorem bnd_ok {α β : Type} (v : α) (r : Rows) (f : α → Rows → Res β) : bnd (.ok (v, r)) f = f v r := rfl
@[simp] theorem bnd_error {α β : Type} (e : Int × Int × Rows) (f : α → Rows → Res β) : bnd (.error e) f = .error e := rfl
def t0 : T4 := (ByteArray.mk #[], false, 0, ByteArray.mk #[], ())
def tval (r : Rows) : T4 :=
  bif kd r == 2 then (tx r, false, 0, ByteArray.mk #[], ())
  else bif kd r == 3 then (ByteArray.mk #[], true, nm r, ByteArray.mk #[], ())
  else (ByteArray.mk #[], false, 0, tx r, ())
def termP (j : Int) (r : Rows) : Res T4 := bif beg r then .ok (tval r, r.tail) else .error (at_ j r, 80, r)
def mustP (s : ByteArray) (j : Int) (r : Rows) : Res Unit := bif isS s r then .ok ((), r.tail) else .error (at_ j r, 80, r)
def wordP (j : Int) (r : Rows) : Res ByteArray := bif kd r == 1 && !kept (tx r) then .ok (tx r, r.tail) else .error (at_ j r, 80, r)
@[reducible] def row4 (t : T4) : Row := [.val (.string t.1), .val (.bool t.2.1), .val (.int .i64 t.2.2.1), .val (.string t.2.2.2.1)]
@[reducible] def sO : ByteArray := ByteArray.mk #[40]
@[reducible] def sC : ByteArray := ByteArray.mk #[41]
@[reducible] def sComma : ByteArray := ByteArray.mk #[44]
@[reducible] def sDot : ByteArray := ByteArray.mk #[46]
@[reducible] def sSays : ByteArray := ByteArray.mk #[115, 97, 121, 115]
@[reducible] def sTo : ByteArray := ByteArray.mk #[116, 111]
@[reducible] def sAt : ByteArray := ByteArray.mk #[97, 116]
@[reducible] def sColon : ByteArray := ByteArray.mk #[58]
@[reducible] def sIf : ByteArray := ByteArray.mk #[58, 45]
def argsL : Nat → Int → Rows → Rows → Res Rows
  | 0, j, r, _ => .error (at_ j r, 80, r)
  | k + 1, j, r, acc =>
    bif beg r && acc.length == 4 then .error (at_ j r, 81, r)
    else bnd (termP j r) fun t r => bif isS sC r then .ok (acc ++ [row4 t], r.tail) else bnd (mustP sComma j r) fun _ r => argsL k j r (acc ++ [row4 t])
def argsP (j : Int) (r : Rows) : Res Rows := bnd (mustP sO j r) fun _ r => bif isS sC r then .ok ([], r.tail) else argsL 5 j r []
abbrev L10 := ByteArray × Bool × Int × ByteArray × ByteArray × (Bool × Rows) × ByteArray × Bool × Int × ByteArray × Unit
def mkL (by_ : T4) (pred : ByteArray) (args : Rows) (at' : T4) : L10 :=
  (by_.1, by_.2.1, by_.2.2.1, by_.2.2.2.1, pred, (args.isEmpty, args), at'.1, at'.2.1, at'.2.2.1, at'.2.2.2.1, ())
def litB (by_ : T4) (j : Int) (r : Rows) : Res L10 :=
  bnd (wordP j r) fun p r => bnd (argsP j r) fun a r => bif isS sAt r then bnd (termP j r.tail) fun t r => .ok (mkL by_ p a t, r) else .ok (mkL by_ p a t0, r)
def said (r : Rows) : Bool := decide ((r.length : Int) > 1) && Row.I (List.getD r 1 []) 0 == 1 && Row.S (List.getD r 1 []) 1 == sSays
def litP (j : Int) (r : Rows) : Res L10 :=
  bif said r || kd r != 1 then bnd (termP j r) fun t r => bnd (mustP sSays j r) fun _ r => litB t j r
  else litB t0 j r
@[reducible] def ks4 : List Kd := [Kd.s, Kd.b, Kd.i IntKind.i64, Kd.s]
@[reducible] def ks10 : List Kd := [Kd.s, Kd.b, Kd.i IntKind.i64, Kd.s, Kd.s, Kd.sl ks4, Kd.s, Kd.b, Kd.i IntKind.i64, Kd.s]
@[reducible] def row10 (x : L10) : Row := [.val (.string x.1), .val (.bool x.2.1), .val (.int .i64 x.2.2.1), .val (.string x.2.2.2.1), .val (.string x.2.2.2.2.1), .sl x.2.2.2.2.2.1.1 ks4 x.2.2.2.2.2.1.2,
  .val (.string x.2.2.2.2.2.2.1), .val (.bool x.2.2.2.2.2.2.2.1), .val (.int .i64 x.2.2.2.2.2.2.2.2.1), .val (.string x.2.2.2.2.2.2.2.2.2.1)]
def bodyL : Nat → Int → Rows → Rows → Res Rows
  | 0, j, r, _ => .error (at_ j r, 80, r)
  | k + 1, j, r, acc =>
    bif beg r && acc.length == 4 then .error (at_ j r, 81, r)
    else bnd (litP j r) fun t r => bif isS sDot r then .ok (acc ++ [row10 t], r.tail) else bnd (mustP sComma j r) fun _ r => bodyL k j r (acc ++ [row10 t])
abbrev R11 := ByteArray × Bool × Int × ByteArray × ByteArray × (Bool × Rows) × ByteArray × Bool × Int × ByteArray × (Bool × Rows) × Unit
def mkR (home : T4) (pred : ByteArray) (args : Rows) (to : T4) (body : Rows) : R11 :=
  (home.1, home.2.1, home.2.2.1, home.2.2.2.1, pred, (args.isEmpty, args), to.1, to.2.1, to.2.2.1, to.2.2.2.1, (body.isEmpty, body), ())
def ruleB (home : T4) (pred : ByteArray) (args : Rows) (to : T4) (j : Int) (r : Rows) : Res R11 :=
  bnd (mustP sIf j r) fun _ r => bnd (bodyL 5 j r []) fun b r => .ok (mkR home pred args to b, r)
def ruleP (j : Int) (r : Rows) : Res R11 :=
  bnd (termP j r) fun h r => bnd (mustP sColon j r) fun _ r => bnd (wordP j r) fun p r => bnd (argsP j r) fun a r =>
    bif isS sTo r then bnd (termP j r.tail) fun t r => ruleB h p a t j r else ruleB h p a t0 j r
@[reducible] def row11 (x : R11) : Row := [.val (.string x.1), .val (.bool x.2.1), .val (.int .i64 x.2.2.1), .val (.string x.2.2.2.1), .val (.string x.2.2.2.2.1), .sl x.2.2.2.2.2.1.1 ks4 x.2.2.2.2.2.1.2,
  .val (.string x.2.2.2.2.2.2.1), .val (.bool x.2.2.2.2.2.2.2.1), .val (.int .i64 x.2.2.2.2.2.2.2.2.1), .val (.string x.2.2.2.2.2.2.2.2.2.1), .sl x.2.2.2.2.2.2.2.2.2.2.1.1 ks10 x.2.2.2.2.2.2.2.2.2.2.1.2]
def progL : Nat → Int → Rows → Rows → Except (Int × Int) Rows
  | 0, j, r, _ => .error (at_ j r, 80)
  | k + 1, j, r, acc =>
    bif r.isEmpty then .ok acc
    else bif beg r && acc.length == 16 then .error (at_ j r, 81)
    else match ruleP j r with
      | .ok (x, r) => progL k j r (acc ++ [row11 x])
      | .error (a, e, _) => .error (a, e)
def progP (j : Int) (r : Rows) : Except (Int × Int) Rows := progL 17 j r []

abbrev PSt := ((Bool × Rows) × Int × Unit) × Unit
def encP {α : Type} (d : α) (b : Bool) (j : Int) : Res α → Bool × α × (Int × Int × Unit) × PSt
  | .ok (v, r) => (false, v, (0, 0, ()), (((b, r), j, ()), ()))
  | .error (a, e, r) => (true, d, (a, e, ()), (((b, r), j, ()), ()))
@[simp] theorem encP_ok {α : Type} (d : α) (b : Bool) (j : Int) (v : α) (r : Rows) : encP d b j (.ok (v, r)) = (false, v, (0, 0, ()), (((b, r), j, ()), ())) := rfl
@[simp] theorem encP_error {α : Type} (d : α) (b : Bool) (j a e : Int) (r : Rows) : encP d b j (.error (a, e, r)) = (true, d, (a, e, ()), (((b, r), j, ()), ())) := rfl

theorem kept_p (n : Nat) (s : ByteArray) : parse_kept_v n s = some (kept s, ()) := by
  rw [parse_kept_e]; unfold kept
  cases s == ByteArray.mk #[115, 97, 121, 115] <;> cases s == ByteArray.mk #[116, 111] <;> cases s == ByteArray.mk #[97, 116] <;> rfl
theorem next_p (n : Nat) (b : Bool) (r : Rows) (j : Int) : pp_next_v n b r j = some ((kd r, tx r, nm r, at_ j r, ()), (((b, r), j, ()), ())) := by
  rw [pp_next_e]
  cases r with
  | nil => rfl
  | cons t r =>
    rw [show ((((t :: r).length : Nat) : Int) == 0) = false from by simp; omega, cond_false, if_pos (by simp)]; rfl
theorem drop_tail (r : Rows) : List.drop 1 (List.take (Int.toNat ((r.length : Nat) : Int)) r) = r.tail := by simp
@[simp] theorem kd_nil : kd [] = 0 := rfl
theorem beg_ne {r : Rows} (h : beg r = true) : 1 ≤ ((r.length : Nat) : Int) := by
  cases r with
  | nil => simp [beg] at h
  | cons t r => simp; omega
theorem isS_ne {s : ByteArray} {r : Rows} (h : isS s r = true) : 1 ≤ ((r.length : Nat) : Int) := by
  cases r with
  | nil => simp [isS] at h
  | cons t r => simp; omega
theorem word_ne {r : Rows} (h : (kd r == 1) = true) : 1 ≤ ((r.length : Nat) : Int) := by
  cases r with
  | nil => simp at h
  | cons t r => simp; omega
theorem begins_p (n : Nat) (b : Bool) (r : Rows) (j : Int) : pp_begins_v n b r j = some (beg r, (((b, r), j, ()), ())) := by
  rw [pp_begins_e, next_p]
  simp only [obind_some, kept_p]
  unfold beg
  cases kd r == 2 <;> cases kd r == 3 <;> cases kd r == 1 <;> cases kept (tx r) <;> cases kd r == 4 <;> rfl
theorem fail_p (n : Nat) (c : Int) (b : Bool) (r : Rows) (j : Int) : pp_fail_v n c b r j = some (true, (), (at_ j r, c, ()), (((b, r), j, ()), ())) := by
  rw [pp_fail_e, next_p]; rfl
theorem term_p (n : Nat) (b : Bool) (r : Rows) (j : Int) : pp_term_v n b r j = some (encP t0 b j (termP j r)) := by
  rw [pp_term_e, begins_p]
  simp only [obind_some, fail_p, next_p]
  unfold termP
  cases h : beg r with
  | false => rfl
  | true =>
    simp only [Bool.not_true, cond_false, cond_true]
    rw [if_pos (beg_ne h), if_pos (Int.le_refl _), drop_tail]
    unfold tval
    cases kd r == 2 <;> cases kd r == 3 <;> rfl
theorem is_p (n : Nat) (s : ByteArray) (b : Bool) (r : Rows) (j : Int) : pp_is_v n s b r j = some (isS s r, (((b, r), j, ()), ())) := by
  rw [pp_is_e, next_p]
  simp only [obind_some, kept_p]
  unfold isS
  cases tx r == s <;> cases kd r == 5 <;> cases kd r == 1 <;> cases kept s <;> rfl
def tailIf (c : Bool) (r : Rows) : Rows := bif c then r.tail else r
theorem pass_p (n : Nat) (s : ByteArray) (b : Bool) (r : Rows) (j : Int) : pp_pass_v n s b r j = some (isS s r, (((b, tailIf (isS s r) r), j, ()), ())) := by
  rw [pp_pass_e, is_p]
  simp only [obind_some]
  cases h : isS s r with
  | false => rfl
  | true =>
    simp only [Bool.not_true, cond_false]
    rw [if_pos (isS_ne h), if_pos (Int.le_refl _), drop_tail]; rfl
theorem must_p (n : Nat) (s : ByteArray) (b : Bool) (r : Rows) (j : Int) : pp_must_v n s b r j = some (encP () b j (mustP s j r)) := by
  rw [pp_must_e, pass_p]
  simp only [obind_some, fail_p]
  unfold mustP
  cases h : isS s r <;> rfl
theorem word_p (n : Nat) (b : Bool) (r : Rows) (j : Int) : pp_word_v n b r j = some (encP (ByteArray.mk #[]) b j (wordP j r)) := by
  rw [pp_word_e, next_p]
  simp only [obind_some, fail_p, kept_p]
  unfold wordP
  cases h : kd r == 1 with
  | false => simp only [bne, h]; rfl
  | true =>
    simp only [bne, h, Bool.not_true, cond_false, Bool.true_and]
    cases kept (tx r) with
    | true => rfl
    | false =>
      simp only [cond_false, Bool.not_false, cond_true]
      rw [if_pos (word_ne h), if_pos (Int.le_refl _), drop_tail]; rfl
theorem small_app {l : Rows} {x : Row} {c : Nat} (h : l.length ≤ 16) (hc : c ≤ 1000) : (List.length l + List.length [x]) * c ≤ 140737488355328 := by
  have : (List.length l + List.length [x]) * c ≤ 17 * 1000 := Nat.mul_le_mul (by simp; omega) hc
  omega
theorem len_eq (l : Rows) (k : Nat) : (((l.length : Nat) : Int) == (k : Int)) = (l.length == k) := by
  rw [Bool.eq_iff_iff]; simp; omega
theorem termP_t {j : Int} {r : Rows} (h : beg r = true) : termP j r = .ok (tval r, r.tail) := by simp [termP, h]
theorem termP_f {j : Int} {r : Rows} (h : beg r = false) : termP j r = .error (at_ j r, 80, r) := by simp [termP, h]
theorem mustP_t {s : ByteArray} {j : Int} {r : Rows} (h : isS s r = true) : mustP s j r = .ok ((), r.tail) := by simp [mustP, h]
theorem mustP_f {s : ByteArray} {j : Int} {r : Rows} (h : isS s r = false) : mustP s j r = .error (at_ j r, 80, r) := by simp [mustP, h]
theorem app_isEmpty (l : Rows) (x : Row) : (l ++ [x]).isEmpty = false := by simp
theorem args_l (n : Nat) (b0 : Bool) (r0 : Rows) (j0 : Int) : ∀ (k i : Nat) (b : Bool) (r : Rows) (j : Int) (nl : Bool) (acc : Rows), acc.length + k = 4 → k < i →
    pp_args_l5 n b0 r0 j0 i b r j nl acc = some (encP (true, []) b j (bnd (argsL (k + 1) j r acc) fun a r => .ok ((a.isEmpty, a), r))) := by
  intro k
  induction k with
  | zero =>
    intro i b r j nl acc h hi
    obtain ⟨i, rfl⟩ : ∃ q, i = q + 1 := ⟨i - 1, by omega⟩
    rw [pp_args_s5, begins_p]
    simp only [obind_some, fail_p, argsL]
    have hl : (((acc.length : Nat) : Int) == 4) = true := by simp; omega
    have hl' : (acc.length == 4) = true := by simp; omega
    cases hb : beg r with
    | false => rw [term_p, termP_f hb]; rfl
    | true => simp only [hl, hl', Bool.and_self, cond_true]; rfl
  | succ k ih =>
    intro i b r j nl acc h hi
    obtain ⟨i, rfl⟩ : ∃ q, i = q + 1 := ⟨i - 1, by omega⟩
    rw [pp_args_s5, begins_p]
    simp only [obind_some, fail_p]
    unfold argsL
    have hl : (((acc.length : Nat) : Int) == 4) = false := by simp; omega
    have hl' : (acc.length == 4) = false := by simp; omega
    cases hb : beg r with
    | false => rw [term_p, termP_f hb]; rfl
    | true =>
      simp only [hl, hl', Bool.and_false, cond_true, cond_false, term_p, termP_t hb, encP_ok, obind_some, pass_p, bnd_ok]
      rw [if_pos (small_app (by omega) (by omega))]
      cases hc : isS sC r.tail with
      | true =>
        simp only [cond_true, bnd_ok, encP_ok, app_isEmpty, List.isEmpty_cons, Bool.and_false]
        rfl
      | false =>
        simp only [cond_false, tailIf, must_p]
        cases hm : isS sComma r.tail with
        | false => rw [mustP_f hm]; rfl
        | true =>
          rw [mustP_t hm]
          simp only [encP_ok, obind_some, cond_false, bnd_ok]
          exact ih i b _ j _ _ (by simp; omega) (by omega)
theorem args_p (n : Nat) (hn : 5 ≤ n) (b : Bool) (r : Rows) (j : Int) : pp_args_v n b r j = some (encP (true, []) b j (bnd (argsP j r) fun a r => .ok ((a.isEmpty, a), r))) := by
  rw [pp_args_e, must_p]
  unfold argsP
  cases hm : isS sO r with
  | false => rw [mustP_f hm]; rfl
  | true =>
    rw [mustP_t hm]
    simp only [encP_ok, obind_some, cond_false, bnd_ok, pass_p]
    cases hc : isS sC r.tail with
    | true => rfl
    | false =>
      simp only [cond_false, tailIf]
      exact args_l n b r j 4 n b _ j true [] rfl (by omega)
end Go.Den
namespace Go.Den
open Go.Proofs
set_option maxRecDepth 10000
def l0 : L10 := (ByteArray.mk #[], false, 0, ByteArray.mk #[], ByteArray.mk #[], (true, []), ByteArray.mk #[], false, 0, ByteArray.mk #[], ())
def r0 : R11 := (ByteArray.mk #[], false, 0, ByteArray.mk #[], ByteArray.mk #[], (true, []), ByteArray.mk #[], false, 0, ByteArray.mk #[], (true, []), ())
theorem litB_p (n : Nat) (hn : 5 ≤ n) (t : T4) (b : Bool) (r : Rows) (j : Int) : (
  obind (pp_word_v n b r j) fun y6 =>
  bif y6.fst then
    some (true, Sh.dflt (.agg [.s, .b, .i IntKind.i64, .s, .s, .sl [Kd.s, Kd.b, Kd.i IntKind.i64, Kd.s], .s, .b, .i IntKind.i64, .s]), (y6.snd.snd.fst.fst, (y6.snd.snd.fst.snd.fst, ())), (((y6.snd.snd.snd.fst.fst.fst, y6.snd.snd.snd.fst.fst.snd), (y6.snd.snd.snd.fst.snd.fst, ())), ()))
  else obind (pp_args_v n y6.snd.snd.snd.fst.fst.fst y6.snd.snd.snd.fst.fst.snd y6.snd.snd.snd.fst.snd.fst) fun y7 =>
  bif y7.fst then
    some (true, Sh.dflt (.agg [.s, .b, .i IntKind.i64, .s, .s, .sl [Kd.s, Kd.b, Kd.i IntKind.i64, Kd.s], .s, .b, .i IntKind.i64, .s]), (y7.snd.snd.fst.fst, (y7.snd.snd.fst.snd.fst, ())), (((y7.snd.snd.snd.fst.fst.fst, y7.snd.snd.snd.fst.fst.snd), (y7.snd.snd.snd.fst.snd.fst, ())), ()))
  else obind (pp_pass_v n (ByteArray.mk #[97, 116]) y7.snd.snd.snd.fst.fst.fst y7.snd.snd.snd.fst.fst.snd y7.snd.snd.snd.fst.snd.fst) fun y8 =>
  bif y8.fst then
    obind (pp_term_v n y8.snd.fst.fst.fst y8.snd.fst.fst.snd y8.snd.fst.snd.fst) fun y9 =>
    bif y9.fst then
      some (true, Sh.dflt (.agg [.s, .b, .i IntKind.i64, .s, .s, .sl [Kd.s, Kd.b, Kd.i IntKind.i64, Kd.s], .s, .b, .i IntKind.i64, .s]), (y9.snd.snd.fst.fst, (y9.snd.snd.fst.snd.fst, ())), (((y9.snd.snd.snd.fst.fst.fst, y9.snd.snd.snd.fst.fst.snd), (y9.snd.snd.snd.fst.snd.fst, ())), ()))
    else some (false, (t.fst, (t.snd.fst, (t.snd.snd.fst, (t.snd.snd.snd.fst, (y6.snd.fst, ((y7.snd.fst.fst, y7.snd.fst.snd), (y9.snd.fst.fst, (y9.snd.fst.snd.fst, (y9.snd.fst.snd.snd.fst, (y9.snd.fst.snd.snd.snd.fst, ())))))))))), Sh.dflt (.ifc 67 (.agg [.i IntKind.i64, .i IntKind.i64])), (((y9.snd.snd.snd.fst.fst.fst, y9.snd.snd.snd.fst.fst.snd), (y9.snd.snd.snd.fst.snd.fst, ())), ()))
  else some (false, (t.fst, (t.snd.fst, (t.snd.snd.fst, (t.snd.snd.snd.fst, (y6.snd.fst, ((y7.snd.fst.fst, y7.snd.fst.snd), (ByteArray.mk #[], (false, (0, (ByteArray.mk #[], ())))))))))), Sh.dflt (.ifc 67 (.agg [.i IntKind.i64, .i IntKind.i64])), (((y8.snd.fst.fst.fst, y8.snd.fst.fst.snd), (y8.snd.fst.snd.fst, ())), ()))) = some (encP l0 b j (litB t j r)) := by
  rw [word_p]
  unfold litB
  rcases wordP j r with ⟨x, e, r'⟩ | ⟨p, r1⟩
  · kernel_rfl
  simp only [encP_ok, obind_some, cond_false, bnd_ok, args_p n hn]
  rcases argsP j r1 with ⟨x, e, r'⟩ | ⟨a, r2⟩
  · kernel_rfl
  simp only [bnd_ok, encP_ok, obind_some, cond_false, pass_p]
  cases hc : isS sAt r2 with
  | false => kernel_rfl
  | true =>
    simp only [cond_true, tailIf, term_p]
    rcases termP j r2.tail with ⟨x, e, r'⟩ | ⟨p, r1⟩ <;> kernel_rfl
theorem litA_p (n : Nat) (hn : 5 ≤ n) (b : Bool) (r : Rows) (j : Int) : (
  obind (pp_term_v n b r j) fun y4 =>
  bif y4.fst then
    some (true, Sh.dflt (.agg [.s, .b, .i IntKind.i64, .s, .s, .sl [Kd.s, Kd.b, Kd.i IntKind.i64, Kd.s], .s, .b, .i IntKind.i64, .s]), (y4.snd.snd.fst.fst, (y4.snd.snd.fst.snd.fst, ())), (((y4.snd.snd.snd.fst.fst.fst, y4.snd.snd.snd.fst.fst.snd), (y4.snd.snd.snd.fst.snd.fst, ())), ()))
  else obind (pp_must_v n (ByteArray.mk #[115, 97, 121, 115]) y4.snd.snd.snd.fst.fst.fst y4.snd.snd.snd.fst.fst.snd y4.snd.snd.snd.fst.snd.fst) fun y5 =>
  bif y5.fst then
    some (true, Sh.dflt (.agg [.s, .b, .i IntKind.i64, .s, .s, .sl [Kd.s, Kd.b, Kd.i IntKind.i64, Kd.s], .s, .b, .i IntKind.i64, .s]), (y5.snd.snd.fst.fst, (y5.snd.snd.fst.snd.fst, ())), (((y5.snd.snd.snd.fst.fst.fst, y5.snd.snd.snd.fst.fst.snd), (y5.snd.snd.snd.fst.snd.fst, ())), ()))
  else obind (pp_word_v n y5.snd.snd.snd.fst.fst.fst y5.snd.snd.snd.fst.fst.snd y5.snd.snd.snd.fst.snd.fst) fun y6 =>
  bif y6.fst then
    some (true, Sh.dflt (.agg [.s, .b, .i IntKind.i64, .s, .s, .sl [Kd.s, Kd.b, Kd.i IntKind.i64, Kd.s], .s, .b, .i IntKind.i64, .s]), (y6.snd.snd.fst.fst, (y6.snd.snd.fst.snd.fst, ())), (((y6.snd.snd.snd.fst.fst.fst, y6.snd.snd.snd.fst.fst.snd), (y6.snd.snd.snd.fst.snd.fst, ())), ()))
  else obind (pp_args_v n y6.snd.snd.snd.fst.fst.fst y6.snd.snd.snd.fst.fst.snd y6.snd.snd.snd.fst.snd.fst) fun y7 =>
  bif y7.fst then
    some (true, Sh.dflt (.agg [.s, .b, .i IntKind.i64, .s, .s, .sl [Kd.s, Kd.b, Kd.i IntKind.i64, Kd.s], .s, .b, .i IntKind.i64, .s]), (y7.snd.snd.fst.fst, (y7.snd.snd.fst.snd.fst, ())), (((y7.snd.snd.snd.fst.fst.fst, y7.snd.snd.snd.fst.fst.snd), (y7.snd.snd.snd.fst.snd.fst, ())), ()))
  else obind (pp_pass_v n (ByteArray.mk #[97, 116]) y7.snd.snd.snd.fst.fst.fst y7.snd.snd.snd.fst.fst.snd y7.snd.snd.snd.fst.snd.fst) fun y8 =>
  bif y8.fst then
    obind (pp_term_v n y8.snd.fst.fst.fst y8.snd.fst.fst.snd y8.snd.fst.snd.fst) fun y9 =>
    bif y9.fst then
      some (true, Sh.dflt (.agg [.s, .b, .i IntKind.i64, .s, .s, .sl [Kd.s, Kd.b, Kd.i IntKind.i64, Kd.s], .s, .b, .i IntKind.i64, .s]), (y9.snd.snd.fst.fst, (y9.snd.snd.fst.snd.fst, ())), (((y9.snd.snd.snd.fst.fst.fst, y9.snd.snd.snd.fst.fst.snd), (y9.snd.snd.snd.fst.snd.fst, ())), ()))
    else some (false, (y4.snd.fst.fst, (y4.snd.fst.snd.fst, (y4.snd.fst.snd.snd.fst, (y4.snd.fst.snd.snd.snd.fst, (y6.snd.fst, ((y7.snd.fst.fst, y7.snd.fst.snd), (y9.snd.fst.fst, (y9.snd.fst.snd.fst, (y9.snd.fst.snd.snd.fst, (y9.snd.fst.snd.snd.snd.fst, ())))))))))), Sh.dflt (.ifc 67 (.agg [.i IntKind.i64, .i IntKind.i64])), (((y9.snd.snd.snd.fst.fst.fst, y9.snd.snd.snd.fst.fst.snd), (y9.snd.snd.snd.fst.snd.fst, ())), ()))
  else some (false, (y4.snd.fst.fst, (y4.snd.fst.snd.fst, (y4.snd.fst.snd.snd.fst, (y4.snd.fst.snd.snd.snd.fst, (y6.snd.fst, ((y7.snd.fst.fst, y7.snd.fst.snd), (ByteArray.mk #[], (false, (0, (ByteArray.mk #[], ())))))))))), Sh.dflt (.ifc 67 (.agg [.i IntKind.i64, .i IntKind.i64])), (((y8.snd.fst.fst.fst, y8.snd.fst.fst.snd), (y8.snd.fst.snd.fst, ())), ()))) = some (encP l0 b j (bnd (termP j r) fun t r => bnd (mustP sSays j r) fun _ r => litB t j r)) := by
  rw [term_p]
  rcases termP j r with ⟨x, e, r'⟩ | ⟨t, r1⟩
  · kernel_rfl
  simp only [encP_ok, obind_some, cond_false, bnd_ok, must_p]
  rcases mustP sSays j r1 with ⟨x, e, r'⟩ | ⟨_, r2⟩
  · kernel_rfl
  simp only [encP_ok, obind_some, cond_false, bnd_ok]
  exact litB_p n hn t b r2 j
theorem litB0_p (n : Nat) (hn : 5 ≤ n) (b : Bool) (r : Rows) (j : Int) : (
  obind (pp_word_v n b r j) fun y36 =>
  bif y36.fst then
    some (true, Sh.dflt (.agg [.s, .b, .i IntKind.i64, .s, .s, .sl [Kd.s, Kd.b, Kd.i IntKind.i64, Kd.s], .s, .b, .i IntKind.i64, .s]), (y36.snd.snd.fst.fst, (y36.snd.snd.fst.snd.fst, ())), (((y36.snd.snd.snd.fst.fst.fst, y36.snd.snd.snd.fst.fst.snd), (y36.snd.snd.snd.fst.snd.fst, ())), ()))
  else obind (pp_args_v n y36.snd.snd.snd.fst.fst.fst y36.snd.snd.snd.fst.fst.snd y36.snd.snd.snd.fst.snd.fst) fun y37 =>
  bif y37.fst then
    some (true, Sh.dflt (.agg [.s, .b, .i IntKind.i64, .s, .s, .sl [Kd.s, Kd.b, Kd.i IntKind.i64, Kd.s], .s, .b, .i IntKind.i64, .s]), (y37.snd.snd.fst.fst, (y37.snd.snd.fst.snd.fst, ())), (((y37.snd.snd.snd.fst.fst.fst, y37.snd.snd.snd.fst.fst.snd), (y37.snd.snd.snd.fst.snd.fst, ())), ()))
  else obind (pp_pass_v n (ByteArray.mk #[97, 116]) y37.snd.snd.snd.fst.fst.fst y37.snd.snd.snd.fst.fst.snd y37.snd.snd.snd.fst.snd.fst) fun y38 =>
  bif y38.fst then
    obind (pp_term_v n y38.snd.fst.fst.fst y38.snd.fst.fst.snd y38.snd.fst.snd.fst) fun y39 =>
    bif y39.fst then
      some (true, Sh.dflt (.agg [.s, .b, .i IntKind.i64, .s, .s, .sl [Kd.s, Kd.b, Kd.i IntKind.i64, Kd.s], .s, .b, .i IntKind.i64, .s]), (y39.snd.snd.fst.fst, (y39.snd.snd.fst.snd.fst, ())), (((y39.snd.snd.snd.fst.fst.fst, y39.snd.snd.snd.fst.fst.snd), (y39.snd.snd.snd.fst.snd.fst, ())), ()))
    else some (false, (ByteArray.mk #[], (false, (0, (ByteArray.mk #[], (y36.snd.fst, ((y37.snd.fst.fst, y37.snd.fst.snd), (y39.snd.fst.fst, (y39.snd.fst.snd.fst, (y39.snd.fst.snd.snd.fst, (y39.snd.fst.snd.snd.snd.fst, ())))))))))), Sh.dflt (.ifc 67 (.agg [.i IntKind.i64, .i IntKind.i64])), (((y39.snd.snd.snd.fst.fst.fst, y39.snd.snd.snd.fst.fst.snd), (y39.snd.snd.snd.fst.snd.fst, ())), ()))
  else some (false, (ByteArray.mk #[], (false, (0, (ByteArray.mk #[], (y36.snd.fst, ((y37.snd.fst.fst, y37.snd.fst.snd), (ByteArray.mk #[], (false, (0, (ByteArray.mk #[], ())))))))))), Sh.dflt (.ifc 67 (.agg [.i IntKind.i64, .i IntKind.i64])), (((y38.snd.fst.fst.fst, y38.snd.fst.fst.snd), (y38.snd.fst.snd.fst, ())), ()))) = some (encP l0 b j (litB t0 j r)) := litB_p n hn t0 b r j
theorem literal_p (n : Nat) (hn : 5 ≤ n) (b : Bool) (r : Rows) (j : Int) : pp_literal_v n b r j = some (encP l0 b j (litP j r)) := by
  have hA := litA_p n hn b r j
  have hB := litB0_p n hn b r j
  rw [pp_literal_e, next_p]
  simp only [obind_some]
  unfold litP said
  by_cases h1 : ((r.length : Nat) : Int) > 1
  · rw [decide_eq_true h1, if_pos h1, if_pos h1]
    simp only [cond_true, Bool.true_and, bne]
    cases (Row.I (List.getD r 1 []) 0 == 1) <;> cases (Row.S (List.getD r 1 []) 1 == sSays) <;> cases (kd r == 1) <;>
      simp only [Bool.not_true, Bool.not_false, cond_true, cond_false, Bool.and_true, Bool.and_false, Bool.or_true, Bool.or_false, Bool.true_or, Bool.false_or] <;> first | (with_reducible exact hA) | (with_reducible exact hB)
  · rw [decide_eq_false h1]
    simp only [cond_false, Bool.false_and, bne]
    cases (kd r == 1) <;> simp only [Bool.not_true, Bool.not_false, cond_true, cond_false, Bool.and_true, Bool.and_false, Bool.or_true, Bool.or_false, Bool.true_or, Bool.false_or] <;> first | (with_reducible exact hA) | (with_reducible exact hB)
theorem litP_nb {j : Int} {r : Rows} (h : beg r = false) : ∃ e, litP j r = .error e := by
  unfold litP
  cases hc : (said r || kd r != 1) with
  | true => exact ⟨_, by rw [cond_true, termP_f h]; rfl⟩
  | false =>
    simp only [Bool.or_eq_false_iff, bne, Bool.not_eq_false'] at hc
    have hk : kept (tx r) = true := by
      unfold beg at h
      simp only [hc.2, Bool.true_and, Bool.or_eq_false_iff, Bool.not_eq_false'] at h
      exact h.1.2
    refine ⟨_, by rw [cond_false]; unfold litB wordP; rw [hk, Bool.not_true, Bool.and_false, cond_false]; rfl⟩
theorem body_l (n : Nat) (hn : 5 ≤ n) (b0 : Bool) (r0' : Rows) (j0 : Int) (h : T4) (p : ByteArray) (al : Bool) (a : Rows) (to : T4) : ∀ (k i : Nat) (b : Bool) (r : Rows) (j : Int) (nl : Bool) (acc : Rows), acc.length + k = 4 → k < i →
    pp_rule_l8 n b0 r0' j0 i b r j h.1 h.2.1 h.2.2.1 h.2.2.2.1 p al a to.1 to.2.1 to.2.2.1 to.2.2.2.1 nl acc = some (encP r0 b j (bnd (bodyL (k + 1) j r acc) fun bd r => .ok ((h.1, h.2.1, h.2.2.1, h.2.2.2.1, p, (al, a), to.1, to.2.1, to.2.2.1, to.2.2.2.1, (bd.isEmpty, bd), ()), r))) := by
  intro k
  induction k with
  | zero =>
    intro i b r j nl acc hk hi
    obtain ⟨i, rfl⟩ : ∃ q, i = q + 1 := ⟨i - 1, by omega⟩
    rw [pp_rule_s8, begins_p]
    simp only [obind_some, fail_p, bodyL]
    have hl : (((acc.length : Nat) : Int) == 4) = true := by simp; omega
    have hl' : (acc.length == 4) = true := by simp; omega
    cases hb : beg r with
    | true => simp only [hl, hl', Bool.and_self, cond_true]; rfl
    | false =>
      obtain ⟨e, hl⟩ := litP_nb (j := j) hb
      simp only [cond_false, Bool.false_and, literal_p n hn, hl]
      rfl
  | succ k ih =>
    intro i b r j nl acc hk hi
    obtain ⟨i, rfl⟩ : ∃ q, i = q + 1 := ⟨i - 1, by omega⟩
    rw [pp_rule_s8, begins_p]
    simp only [obind_some, fail_p]
    unfold bodyL
    have hl : (((acc.length : Nat) : Int) == 4) = false := by simp; omega
    have hl' : (acc.length == 4) = false := by simp; omega
    cases hb : beg r
    all_goals
      simp only [hl, hl', Bool.and_false, Bool.false_and, cond_true, cond_false, literal_p n hn, obind_some]
      rcases hlit : litP j r with ⟨x, e, r'⟩ | ⟨x, r1⟩
      · rfl
      simp only [encP_ok, obind_some, cond_false, bnd_ok, pass_p]
      rw [if_pos (small_app (by omega) (by omega))]
      cases hc : isS sDot r1 with
      | true =>
        simp only [cond_true, bnd_ok, encP_ok, app_isEmpty, List.isEmpty_cons, Bool.and_false]
        rfl
      | false =>
        simp only [cond_false, tailIf, must_p]
        cases hm : isS sComma r1 with
        | false => rw [mustP_f hm]; rfl
        | true =>
          rw [mustP_t hm]
          simp only [encP_ok, obind_some, cond_false, bnd_ok]
          exact ih i b _ j _ _ (by simp; omega) (by omega)
end Go.Den
namespace Go.Den
open Go.Proofs
set_option maxRecDepth 10000
theorem rule_p (n : Nat) (hn : 5 ≤ n) (b : Bool) (r : Rows) (j : Int) : pp_rule_v n b r j = some (encP r0 b j (ruleP j r)) := by
  rw [pp_rule_e, term_p]
  unfold ruleP
  rcases termP j r with ⟨x, e, r'⟩ | ⟨h, r1⟩
  · rfl
  simp only [encP_ok, obind_some, cond_false, bnd_ok, must_p]
  rcases mustP sColon j r1 with ⟨x, e, r'⟩ | ⟨_, r2⟩
  · rfl
  simp only [encP_ok, obind_some, cond_false, bnd_ok, word_p]
  rcases wordP j r2 with ⟨x, e, r'⟩ | ⟨p, r3⟩
  · rfl
  simp only [encP_ok, obind_some, cond_false, bnd_ok, args_p n hn]
  rcases argsP j r3 with ⟨x, e, r'⟩ | ⟨a, r4⟩
  · rfl
  simp only [encP_ok, obind_some, cond_false, bnd_ok, pass_p]
  cases hc : isS sTo r4 with
  | false =>
    simp only [cond_false, tailIf]
    unfold ruleB
    rcases hm : mustP sIf j r4 with ⟨x, e, r'⟩ | ⟨_, r5⟩
    · rfl
    simp only [encP_ok, obind_some, cond_false, bnd_ok]
    exact body_l n hn b r j h p a.isEmpty a t0 4 n b r5 j true [] rfl (by omega)
  | true =>
    simp only [cond_true, tailIf, term_p]
    rcases termP j r4.tail with ⟨x, e, r'⟩ | ⟨t, r5⟩
    · rfl
    simp only [encP_ok, obind_some, cond_false, bnd_ok, must_p]
    unfold ruleB
    rcases hm : mustP sIf j r5 with ⟨x, e, r'⟩ | ⟨_, r6⟩
    · rfl
    simp only [encP_ok, obind_some, cond_false, bnd_ok]
    exact body_l n hn b r j h p a.isEmpty a t 4 n b r6 j true [] rfl (by omega)
def encG : Except (Int × Int) Rows → ((Bool × Rows) × Int × Int × Unit) × Unit
  | .ok l => (((l.isEmpty, l), 0, 0, ()), ())
  | .error (a, e) => (((true, []), a, e, ()), ())
theorem ruleP_nb {j : Int} {r : Rows} (h : beg r = false) : ∃ e, ruleP j r = .error e := ⟨_, by unfold ruleP; rw [termP_f h]; rfl⟩
theorem prog_l (n : Nat) (hn : 5 ≤ n) (s : ByteArray) (j4 j5 : Int) : ∀ (k i : Nat) (b : Bool) (r : Rows) (j : Int) (nl : Bool) (acc : Rows), acc.length + k = 16 → k < i → nl = acc.isEmpty →
    parse_Program_l6 n s i b r j4 j5 j nl acc = some (encG (progL (k + 1) j r acc)) := by
  intro k
  induction k with
  | zero =>
    intro i b r j nl acc hk hi hnl
    obtain ⟨i, rfl⟩ : ∃ q, i = q + 1 := ⟨i - 1, by omega⟩
    rw [parse_Program_s6]
    unfold progL
    cases r with
    | nil =>
      subst hnl
      rw [show decide (((List.length ([] : Rows) : Nat) : Int) > 0) = false from rfl, cond_false]
      rfl
    | cons t r =>
    have hlen : decide (((List.length (t :: r) : Nat) : Int) > 0) = true := by simp
    rw [hlen, cond_true, begins_p]
    simp only [obind_some, fail_p, List.isEmpty_cons, cond_false]
    cases hb : beg (t :: r) with
    | false =>
      obtain ⟨⟨a, e, r'⟩, he⟩ := ruleP_nb (j := j) hb
      simp only [cond_false, Bool.false_and, rule_p n hn, he, encP_error, obind_some, cond_true]
      rfl
    | true =>
      simp only [cond_true, Bool.true_and]
      have hl : (((acc.length : Nat) : Int) == 16) = (acc.length == 16) := len_eq acc 16
      have h16 : (acc.length == 16) = true := by simp; omega
      rw [hl, h16]
      rfl
  | succ k ih =>
    intro i b r j nl acc hk hi hnl
    obtain ⟨i, rfl⟩ : ∃ q, i = q + 1 := ⟨i - 1, by omega⟩
    rw [parse_Program_s6]
    unfold progL
    cases r with
    | nil =>
      subst hnl
      rw [show decide (((List.length ([] : Rows) : Nat) : Int) > 0) = false from rfl, cond_false]
      rfl
    | cons t r =>
    have hlen : decide (((List.length (t :: r) : Nat) : Int) > 0) = true := by simp
    rw [hlen, cond_true, begins_p]
    simp only [obind_some, fail_p, List.isEmpty_cons, cond_false]
    cases hb : beg (t :: r) with
    | false =>
      obtain ⟨⟨a, e, r'⟩, he⟩ := ruleP_nb (j := j) hb
      simp only [cond_false, Bool.false_and, rule_p n hn, he, encP_error, obind_some, cond_true]
      rfl
    | true =>
      simp only [cond_true, Bool.true_and]
      have hl : (((acc.length : Nat) : Int) == 16) = (acc.length == 16) := len_eq acc 16
      rw [hl]
      cases h16 : acc.length == 16 with
      | true => rfl
      | false =>
        simp only [cond_false, rule_p n hn]
        rcases hr : ruleP j (t :: r) with ⟨x, e, r'⟩ | ⟨x, r1⟩
        · rfl
        simp only [encP_ok, obind_some, cond_false]
        have h16' : acc.length ≠ 16 := by simpa using h16
        rw [if_pos (small_app (by omega) (by omega))]
        exact ih i b r1 j _ _ (by simp; omega) (by omega) (by simp)
end Go.Den
namespace Go.Den
open Go.Proofs
set_option maxRecDepth 10000
theorem program_p (n : Nat) (hn : 20 ≤ n) {s : ByteArray} {nl : Bool} {tk : Rows} {at' e : Int} (h : lex_Tokens_v n s = some (((nl, tk), at', e, ()), ())) :
    parse_Program_v n s = some (encG (bif e != 0 then .error (at', e) else progP s.size tk)) := by
  rw [parse_Program_e, h]
  simp only [obind_some]
  cases he : (e != 0) with
  | true => rfl
  | false =>
    simp only [cond_false]
    exact prog_l n (by omega) s _ _ 16 n nl tk _ true [] rfl (by omega) rfl
def parseE (s : ByteArray) : Except (Int × Int) Rows :=
  match tokensE s with
  | .ok l => progP s.size l
  | .error p => .error ((p.1 : Int), p.2)
theorem tokF_err (s : ByteArray) : ∀ k j p, tokF s k j = .error p → p.2 = 70 ∨ p.2 = 71
  | 0, j, p, h => by cases h
  | k + 1, j, p, h => by
    unfold tokF at h
    split at h
    · split at h
      · cases h; exact .inl rfl
      · split at h
        · cases h; exact .inr rfl
        · split at h
          · cases h
          · rename_i q hq; cases h; exact tokF_err s k _ _ hq
    · cases h
theorem tokensE_err {s : ByteArray} {p : Nat × Int} (h : tokensE s = .error p) : (p.2 != 0) = true := by
  unfold tokensE at h
  split at h
  · cases h; rfl
  · rcases tokF_err s _ _ _ h with h | h <;> rw [h] <;> rfl
theorem program_pq {n : Nat} (hn : 5000 < n) (s : ByteArray) : parse_Program_v n s = some (encG (parseE s)) := by
  have h := lex_Tokens_q (s := s) hn
  unfold parseE
  rcases ht : tokensE s with p | l
  · rw [ht] at h
    rw [program_p n (by omega) h]
    simp only [tokensE_err ht, cond_true]
  · rw [ht] at h
    rw [program_p n (by omega) h]; rfl
end Go.Den
