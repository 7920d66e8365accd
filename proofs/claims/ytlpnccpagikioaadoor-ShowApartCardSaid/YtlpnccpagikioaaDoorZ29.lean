import Derived.Test.YtlpnccpagikioaaDoorZ28
set_option linter.unusedVariables false
set_option linter.unusedSimpArgs false
set_option linter.unusedSectionVars false
/- LexNumbers. -/
namespace Go.Den
open Go.Proofs
theorem wrap_u8 {z : Int} (h1 : 0 ≤ z) (h2 : z < 256) : IntKind.wrap IntKind.u8 z = z := by
  unfold IntKind.wrap
  simp only [IntKind.bits, IntKind.signed]
  first
    | (simp; omega)
    | omega
theorem wrap_u64 {z : Int} (h1 : 0 ≤ z) (h2 : z < 18446744073709551616) : IntKind.wrap IntKind.u64 z = z := by
  unfold IntKind.wrap
  simp only [IntKind.bits, IntKind.signed]
  first
    | (simp; omega)
    | omega
theorem wrap_u64n {z : Int} (h1 : -18446744073709551616 ≤ z) (h2 : z < 0) : IntKind.wrap IntKind.u64 z = z + 18446744073709551616 := by
  unfold IntKind.wrap
  simp only [IntKind.bits, IntKind.signed]
  first
    | (simp; omega)
    | omega
/-- Digits as a text. -/
def ofD (l : List Nat) : ByteArray := ⟨(l.map fun d => UInt8.ofNat (48 + d)).toArray⟩
theorem ofD_size (l : List Nat) : (ofD l).size = l.length := by
  show (l.map _).toArray.size = _
  simp
theorem ofD_cons (d : Nat) (l : List Nat) : ofD [d] ++ ofD l = ofD (d :: l) := by
  apply ByteArray.ext
  rw [ByteArray.data_append]
  simp [ofD]
theorem bt_ofD {l : List Nat} {j : Nat} (hj : j < l.length) (hd : ∀ d ∈ l, d < 10) : bt (ofD l) (j : Int) = 48 + (l[j] : Int) := by
  unfold bt ofD
  simp only [Int.toNat_natCast]
  rw [List.getD_eq_getElem?_getD, List.getElem?_map, List.getElem?_eq_getElem hj]
  have := hd _ (List.getElem_mem hj)
  show ((UInt8.ofNat (48 + l[j])).toNat : Int) = _
  rw [UInt8.toNat_ofNat']
  omega
def valFrom : Nat → List Nat → Nat
  | a, [] => a
  | a, d :: l => valFrom (10 * a + d) l
theorem valFrom_ge : ∀ (l : List Nat) (a : Nat), a ≤ valFrom a l
  | [], a => Nat.le_refl _
  | d :: l, a => by have := valFrom_ge l (10 * a + d); unfold valFrom; omega
/-! what its tokens are -/
theorem digitMore_q {a d : Nat} (hd : d < 10) (h : 10 * a + d ≤ 9223372036854775808) : digitMore (-(a : Int)) (48 + (d : Int)) = some (-((10 * a + d : Nat) : Int)) := by
  unfold digitMore
  have e0 : (48 + (d : Int) - 48) = (d : Int) := by omega
  have e1 : IntKind.wrap IntKind.u8 (d : Int) = (d : Int) := wrap_u8 (by omega) (by omega)
  have e2 : W (d : Int) = (d : Int) := wrap_i64 (by omega) (by omega)
  have e3 : W (-9223372036854775808 + (d : Int)) = -9223372036854775808 + (d : Int) := wrap_i64 (by omega) (by omega)
  have e4 : Int.tdiv (-9223372036854775808 + (d : Int)) 10 = -(((9223372036854775808 - d) / 10 : Nat) : Int) := by
    have : (-9223372036854775808 + (d : Int)) = -((9223372036854775808 - d : Nat) : Int) := by omega
    rw [this, Int.neg_tdiv]; rfl
  have e5 : W (-(((9223372036854775808 - d) / 10 : Nat) : Int)) = -(((9223372036854775808 - d) / 10 : Nat) : Int) := wrap_i64 (by omega) (by omega)
  have e6 : W (10 * -(a : Int)) = 10 * -(a : Int) := wrap_i64 (by omega) (by omega)
  have e7 : W (10 * -(a : Int) - (d : Int)) = 10 * -(a : Int) - (d : Int) := wrap_i64 (by omega) (by omega)
  have hc : ¬ (-(a : Int) < -(((9223372036854775808 - d) / 10 : Nat) : Int)) := by omega
  rw [e0, e1, e2, e3, e4, e5, e6, e7, decide_eq_false hc, cond_false]
  congr 1; omega
theorem numF_val {t : ByteArray} : ∀ (l : List Nat) (j a : Nat), (∀ d ∈ l, d < 10) → (∀ i (h : i < l.length), bt t ((j + i : Nat) : Int) = 48 + (l[i] : Int)) → valFrom a l ≤ 9223372036854775808 → numF t l.length j (-(a : Int)) = some (-(valFrom a l : Int))
  | [], j, a, _, _, _ => rfl
  | d :: l, j, a, hd, hb, hv => by
    rw [List.length_cons, numF_succ]
    have h0 := hb 0 (by simp)
    simp only [Nat.add_zero, List.getElem_cons_zero] at h0
    have hge := valFrom_ge l (10 * a + d)
    have hv' : valFrom (10 * a + d) l ≤ 9223372036854775808 := hv
    rw [h0, digitMore_q (hd d List.mem_cons_self) (by omega)]
    exact numF_val l (j + 1) (10 * a + d) (fun x hx => hd x (List.mem_cons_of_mem _ hx)) (fun i hi => by
      have := hb (i + 1) (by simp only [List.length_cons]; omega)
      simp only [List.getElem_cons_succ] at this
      rw [show j + 1 + i = j + (i + 1) from by omega]; exact this) hv'
theorem dig_facts {c : Int} (h1 : 48 ≤ c) (h2 : c < 58) : isSmall c = false ∧ isGreat c = false ∧ isDigit c = true ∧ isBlank c = false ∧ (c == 37) = false ∧ (c == 45) = false := by
  refine ⟨?_, ?_, ?_, ?_, ?_, ?_⟩
  · have : ¬ c ≥ 97 := by omega
    simp [isSmall, this]
  · have : ¬ c ≥ 65 := by omega
    simp [isGreat, this]
  · have a : c ≥ 48 := by omega
    have b : c ≤ 57 := by omega
    simp [isDigit, a, b]
  · have a : ¬ c = 32 := by omega
    have b : ¬ c = 9 := by omega
    have d : ¬ c = 10 := by omega
    have e : ¬ c = 13 := by omega
    simp [isBlank, a, b, d, e]
  · have : ¬ c = 37 := by omega
    simpa using this
  · have : ¬ c = 45 := by omega
    simpa using this
/-- The tokens of a text that is one number, or none. -/
theorem tokens_num {t : ByteArray} (h0 : 0 < t.size) (hsz : t.size ≤ 4096) (hfirst : (bt t 0 == 45) = true ∧ 1 < t.size ∨ isDigit (bt t 0) = true) (hd : ∀ i : Nat, 1 ≤ i → i < t.size → isDigit (bt t (i : Int)) = true) :
    tokensE t = match numS t 0 t.size with
      | some v => .ok [tokRow 3 (ByteArray.mk #[]) v 0]
      | none => .error (0, 70) := by
  have hc : isSmall (bt t 0) = false ∧ isGreat (bt t 0) = false ∧ isBlank (bt t 0) = false ∧ (bt t 0 == 37) = false ∧ (isDigit (bt t 0) || bt t 0 == 45) = true := by
    rcases hfirst with ⟨h, _⟩ | h
    · have e : bt t 0 = 45 := by simpa using h
      rw [e]; exact ⟨by decide, by decide, by decide, by decide, by decide⟩
    · have h' := h
      simp only [isDigit, Bool.and_eq_true, decide_eq_true_eq] at h'
      obtain ⟨a1, a2, a3, a4, a5, a6⟩ := dig_facts (c := bt t 0) (by omega) (by omega)
      exact ⟨a1, a2, a4, a5, by rw [h]; rfl⟩
  obtain ⟨c1, c2, c3, c4, c5⟩ := hc
  have hsk : skip t 0 = 0 := skip_stop (j := 0) c4 c3
  have hov : over isDigit t 1 = t.size := over_unique (by omega) (Nat.le_refl _) (fun i a b => hd i a b) (fun h => by omega)
  have hone : oneS t 0 = match numS t 0 t.size with
      | some m => some (3, ByteArray.mk #[], m, t.size)
      | none => none := by
    unfold oneS
    rw [show ((0 : Nat) : Int) = 0 from rfl, c1, c2, c5, Nat.zero_add, hov]
    simp only [cond_true, cond_false]
    cases numS t 0 t.size <;> rfl
  unfold tokensE tokens
  rw [if_neg (by omega), hsk, tokF, if_pos h0, hone]
  cases numS t 0 t.size with
  | none => rfl
  | some v =>
    simp only
    rw [if_neg (by decide), skip_end (Nat.le_refl _), tokF_end]
/-! the law -/
theorem bt_head (c : UInt8) (s : ByteArray) : bt (⟨#[c]⟩ ++ s) 0 = (c.toNat : Int) := by
  have := bt_app1 (s := ⟨#[c]⟩) (t := s) (k := 0) (by show 0 < 1; decide)
  exact this
theorem bt_tail (c : UInt8) (s : ByteArray) (i : Nat) : bt (⟨#[c]⟩ ++ s) ((i + 1 : Nat) : Int) = bt s (i : Int) := by
  have := bt_app2 (s := ⟨#[c]⟩) (t := s) (k := i)
  rw [show (ByteArray.size ⟨#[c]⟩) + i = i + 1 from Nat.add_comm _ _] at this
  exact this
theorem size_head (c : UInt8) (s : ByteArray) : (⟨#[c]⟩ ++ s : ByteArray).size = s.size + 1 := by
  rw [app_size, Nat.add_comm]; rfl
section
variable {l : List Nat} (hd : ∀ d ∈ l, d < 10) (h0 : 0 < l.length) (h20 : l.length ≤ 21) (hz : 1 < l.length → ∀ h : 0 < l.length, l[0] ≠ 0) (hv : valFrom 0 l ≤ 9223372036854775808)
include hd h0 h20
theorem ofD_digit {i : Nat} (hi : i < l.length) : isDigit (bt (ofD l) (i : Int)) = true := by
  have := hd _ (List.getElem_mem hi)
  rw [bt_ofD hi hd]
  exact (dig_facts (c := 48 + (l[i] : Int)) (by omega) (by omega)).2.2.1
theorem ofD_first : bt (ofD l) 0 = 48 + (l[0] : Int) := bt_ofD (j := 0) h0 hd
include hz hv
theorem tokens_plain (hlt : valFrom 0 l < 9223372036854775808) : tokensE (ofD l) = .ok [tokRow 3 (ByteArray.mk #[]) (valFrom 0 l : Int) 0] := by
  have hs := ofD_size l
  rw [tokens_num (t := ofD l) (by omega) (by omega) (.inr (by have := ofD_digit hd h0 h20 (i := 0) h0; exact this)) (fun i a b => ofD_digit hd h0 h20 (by omega))]
  have hn : numF (ofD l) (ofD l).size 0 0 = some (-(valFrom 0 l : Int)) := by
    rw [hs]
    have := numF_val (t := ofD l) l 0 0 hd (fun i hi => by rw [Nat.zero_add]; exact bt_ofD hi hd) hv
    simpa using this
  have hl := hd _ (List.getElem_mem h0)
  unfold numS
  rw [show ((0 : Nat) : Int) = 0 from rfl, ofD_first hd h0 h20, (dig_facts (c := 48 + (l[0] : Int)) (by omega) (by omega)).2.2.2.2.2]
  simp only [cond_false, Nat.sub_zero, hn]
  have c48 : (48 + (l[0] : Int) == 48 && decide ((ofD l).size > 0 + 1)) = false := by
    by_cases h1 : 1 < l.length
    · have := hz h1 h0
      have : ¬ (48 + (l[0] : Int)) = 48 := by omega
      have e : (48 + (l[0] : Int) == 48) = false := by simpa using this
      rw [e]; rfl
    · have : ¬ (ofD l).size > 0 + 1 := by omega
      rw [decide_eq_false this, Bool.and_false]
  rw [c48, cond_false]
  have m1 : (-(valFrom 0 l : Int) == -9223372036854775808) = false := by
    have : ¬ -(valFrom 0 l : Int) = -9223372036854775808 := by omega
    simpa using this
  have m2 : W (0 - -(valFrom 0 l : Int)) = (valFrom 0 l : Int) := by rw [show (0 : Int) - -(valFrom 0 l : Int) = (valFrom 0 l : Int) from by omega]; exact wrap_i64 (by omega) (by omega)
  simp only [m1, cond_false, m2]
theorem tokens_minus (hnz : ∀ h : 0 < l.length, l[0] ≠ 0) : tokensE (ByteArray.mk #[45] ++ ofD l) = .ok [tokRow 3 (ByteArray.mk #[]) (-(valFrom 0 l : Int)) 0] := by
  have hs := ofD_size l
  have hs2 : (ByteArray.mk #[45] ++ ofD l).size = l.length + 1 := by rw [size_head, hs]
  have hb : ∀ i : Nat, bt (ByteArray.mk #[45] ++ ofD l) ((i + 1 : Nat) : Int) = bt (ofD l) (i : Int) := fun i => bt_tail 45 (ofD l) i
  have hf : bt (ByteArray.mk #[45] ++ ofD l) 0 = 45 := bt_head 45 (ofD l)
  rw [tokens_num (t := ByteArray.mk #[45] ++ ofD l) (by omega) (by omega) (.inl ⟨by rw [hf]; rfl, by omega⟩) (fun i a b => by
    obtain ⟨i, rfl⟩ : ∃ z, i = z + 1 := ⟨i - 1, by omega⟩
    rw [hb]; exact ofD_digit hd h0 h20 (by omega))]
  have hn : numF (ByteArray.mk #[45] ++ ofD l) ((ByteArray.mk #[45] ++ ofD l).size - (0 + 1)) (0 + 1) 0 = some (-(valFrom 0 l : Int)) := by
    rw [hs2, show l.length + 1 - (0 + 1) = l.length from by omega]
    have := numF_val (t := ByteArray.mk #[45] ++ ofD l) l (0 + 1) 0 hd (fun i hi => by
      rw [show 0 + 1 + i = i + 1 from by omega, hb]; exact bt_ofD hi hd) hv
    simpa using this
  unfold numS
  have hl := hd _ (List.getElem_mem h0)
  have c1 : bt (ByteArray.mk #[45] ++ ofD l) ((0 + 1 : Nat) : Int) = 48 + (l[0] : Int) := by rw [hb 0]; exact ofD_first hd h0 h20
  have c2 : (48 + (l[0] : Int) == 48) = false := by
    have := hnz h0
    have : ¬ (48 + (l[0] : Int)) = 48 := by omega
    simpa using this
  rw [show ((0 : Nat) : Int) = 0 from rfl, hf, c1, c2, hn]
  have c3 : ¬ (ByteArray.mk #[45] ++ ofD l).size ≤ 0 + 1 := by omega
  simp only [beq_self_eq_true, cond_true, c3, decide_false, cond_false]
end
end Go.Den
