import Derived.Test.YtlpnccpagikioaaGreatDoorZ29
set_option linter.unusedVariables false
set_option linter.unusedSimpArgs false
set_option linter.unusedSectionVars false
namespace Go.Den
open Go.Proofs
theorem wrap_u8 {z : Int} (h1 : 0 ≤ z) (h2 : z < 256) : IntKind.wrap IntKind.u8 z = z := by
  unfold IntKind.wrap
  simp only [IntKind.bits, IntKind.signed]
  first
    | (simp; omega)
    | omega
def ofD (l : List Nat) : ByteArray := ⟨(l.map fun d => UInt8.ofNat (48 + d)).toArray⟩
theorem ofD_size (l : List Nat) : (ofD l).size = l.length := by
  show (l.map _).toArray.size = _
  simp
theorem bt_ofD {l : List Nat} {j : Nat} (hj : j < l.length) (hd : ∀ d ∈ l, d < 10) : bt (ofD l) (j : Int) = 48 + (l[j] : Int) := by
  unfold bt ofD
  simp only [Int.toNat_natCast]
  rw [List.getD_eq_getElem?_getD, List.getElem?_map, List.getElem?_eq_getElem hj]
  have := hd _ (List.getElem_mem hj)
  show ((UInt8.ofNat (48 + l[j])).toNat : Int) = _
  rw [UInt8.toNat_ofNat']
  omega
def valFrom : Nat → List Nat → Nat
  | a, [] => a
  | a, d :: l => valFrom (10 * a + d) l
theorem valFrom_ge : ∀ (l : List Nat) (a : Nat), a ≤ valFrom a l
  | [], a => Nat.le_refl _
  | d :: l, a => by have := valFrom_ge l (10 * a + d); unfold valFrom; omega
theorem digitMore_q {a d : Nat} (hd : d < 10) (h : 10 * a + d ≤ 9223372036854775808) : digitMore (-(a : Int)) (48 + (d : Int)) = some (-((10 * a + d : Nat) : Int)) := by
  unfold digitMore
  have e0 : (48 + (d : Int) - 48) = (d : Int) := by omega
  have e1 : IntKind.wrap IntKind.u8 (d : Int) = (d : Int) := wrap_u8 (by omega) (by omega)
  have e2 : W (d : Int) = (d : Int) := wrap_i64 (by omega) (by omega)
  have e3 : W (-9223372036854775808 + (d : Int)) = -9223372036854775808 + (d : Int) := wrap_i64 (by omega) (by omega)
  have e4 : Int.tdiv (-9223372036854775808 + (d : Int)) 10 = -(((9223372036854775808 - d) / 10 : Nat) : Int) := by
    have : (-9223372036854775808 + (d : Int)) = -((9223372036854775808 - d : Nat) : Int) := by omega
    rw [this, Int.neg_tdiv]; rfl
  have e5 : W (-(((9223372036854775808 - d) / 10 : Nat) : Int)) = -(((9223372036854775808 - d) / 10 : Nat) : Int) := wrap_i64 (by omega) (by omega)
  have e6 : W (10 * -(a : Int)) = 10 * -(a : Int) := wrap_i64 (by omega) (by omega)
  have e7 : W (10 * -(a : Int) - (d : Int)) = 10 * -(a : Int) - (d : Int) := wrap_i64 (by omega) (by omega)
  have hc : ¬ (-(a : Int) < -(((9223372036854775808 - d) / 10 : Nat) : Int)) := by omega
  rw [e0, e1, e2, e3, e4, e5, e6, e7, decide_eq_false hc, cond_false]
  congr 1; omega
theorem numF_val {t : ByteArray} : ∀ (l : List Nat) (j a : Nat), (∀ d ∈ l, d < 10) → (∀ i (h : i < l.length), bt t ((j + i : Nat) : Int) = 48 + (l[i] : Int)) → valFrom a l ≤ 9223372036854775808 → numF t l.length j (-(a : Int)) = some (-(valFrom a l : Int))
  | [], j, a, _, _, _ => rfl
  | d :: l, j, a, hd, hb, hv => by
    rw [List.length_cons, numF_succ]
    have h0 := hb 0 (by simp)
    simp only [Nat.add_zero, List.getElem_cons_zero] at h0
    have hge := valFrom_ge l (10 * a + d)
    have hv' : valFrom (10 * a + d) l ≤ 9223372036854775808 := hv
    rw [h0, digitMore_q (hd d List.mem_cons_self) (by omega)]
    exact numF_val l (j + 1) (10 * a + d) (fun x hx => hd x (List.mem_cons_of_mem _ hx)) (fun i hi => by
      have := hb (i + 1) (by simp only [List.length_cons]; omega)
      simp only [List.getElem_cons_succ] at this
      rw [show j + 1 + i = j + (i + 1) from by omega]; exact this) hv'
theorem dig_facts {c : Int} (h1 : 48 ≤ c) (h2 : c < 58) : isSmall c = false ∧ isGreat c = false ∧ isDigit c = true ∧ isBlank c = false ∧ (c == 37) = false ∧ (c == 45) = false := by
  refine ⟨?_, ?_, ?_, ?_, ?_, ?_⟩
  · have : ¬ c ≥ 97 := by omega
    simp [isSmall, this]
  · have : ¬ c ≥ 65 := by omega
    simp [isGreat, this]
  · have a : c ≥ 48 := by omega
    have b : c ≤ 57 := by omega
    simp [isDigit, a, b]
  · have a : ¬ c = 32 := by omega
    have b : ¬ c = 9 := by omega
    have d : ¬ c = 10 := by omega
    have e : ¬ c = 13 := by omega
    simp [isBlank, a, b, d, e]
  · have : ¬ c = 37 := by omega
    simpa using this
  · have : ¬ c = 45 := by omega
    simpa using this
theorem bt_head (c : UInt8) (s : ByteArray) : bt (⟨#[c]⟩ ++ s) 0 = (c.toNat : Int) := by
  have := bt_app1 (s := ⟨#[c]⟩) (t := s) (k := 0) (by show 0 < 1; decide)
  exact this
theorem bt_tail (c : UInt8) (s : ByteArray) (i : Nat) : bt (⟨#[c]⟩ ++ s) ((i + 1 : Nat) : Int) = bt s (i : Int) := by
  have := bt_app2 (s := ⟨#[c]⟩) (t := s) (k := i)
  rw [show (ByteArray.size ⟨#[c]⟩) + i = i + 1 from Nat.add_comm _ _] at this
  exact this
theorem size_head (c : UInt8) (s : ByteArray) : (⟨#[c]⟩ ++ s : ByteArray).size = s.size + 1 := by
  rw [app_size, Nat.add_comm]; rfl
section
variable {l : List Nat} (hd : ∀ d ∈ l, d < 10) (h0 : 0 < l.length) (h20 : l.length ≤ 21) (hz : 1 < l.length → ∀ h : 0 < l.length, l[0] ≠ 0) (hv : valFrom 0 l ≤ 9223372036854775808)
include hd h0 h20
end
end Go.Den
