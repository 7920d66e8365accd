import Derived.Test.YtbdjanjcphgjdaaGreatDoorZ29
import Derived.Test.YtbdjanjcphgjdaaGreatDoorZ27
set_option linter.unusedVariables false
set_option linter.unusedSimpArgs false
set_option linter.unusedSectionVars false
namespace Go.Den
open Go.Proofs
set_option linter.unusedVariables false
set_option maxRecDepth 20000
def progS : Rows → Nat → Seen → Int × Int × Int
 |[], _, _ => (0, -1, -1)
 |r :: t, i, s =>
  match ruleR r with
  |none => (100, (i : Int), -1)
  |some _ =>
   bif decide (placeD (ruleD r) > -2) then (101, (i : Int), placeD (ruleD r)) else
   bif decide ((aritD s (ruleD r)).2 > -2) then (102, (i : Int), (aritD s (ruleD r)).2) else
   bif decide (freeR (ruleD r) > -2) then (103, (i : Int), freeR (ruleD r)) else
   bif openD (ruleD r) then (104, (i : Int), -1) else progS t (i + 1) (aritD s (ruleD r)).1
def outP (x : Int × Int × Int) : (Int × Int × Int × Unit) × Unit := ((x.1, (x.2.1, (x.2.2, ()))), ())
def progC (l : Rows) : Int × Int × Int := bif decide ((l.length : Int) > 16) then (81, -1, -1) else progS l 0 []
theorem bodyOk {n : Nat} {r : Row} (h : RuleOk n r) : BodyOk (Row.R r 10) := ⟨h.blen, fun l hl => (h.body l hl).len⟩
theorem Program_l {n : Nat} {b0 : Bool} {r1 : Rows} (hn : 2000000 < n) (hl : r1.length ≤ 1000) (h : ∀ r ∈ r1, RuleOk n r) : ∀ k q : Nat, q + k = r1.length → ∀ (i : Nat) (s : Seen), k < i →
  z19_l5 n b0 r1 i (q : Int) (se s) = some (outP (progS (r1.drop q) q s)) := by
 have hb : 4000000 ≤ big := by unfold big; omega
 intro k
 induction k with
 |zero =>
  intro q hq i s hi
  obtain ⟨i, rfl⟩ : ∃ m, i = m + 1 := ⟨i - 1, by omega⟩
  have hnil : r1.drop q = [] := List.drop_eq_nil_of_le (by omega)
  rw [z19_s5, hnil]
  have h1 : ¬ (q : Int) < (r1.length : Int) := by omega
  simp only [h1, decide_false, cond_false]; rfl
 |succ k ih =>
  intro q hq i s hi
  obtain ⟨i, rfl⟩ : ∃ m, i = m + 1 := ⟨i - 1, by omega⟩
  have hlt : q < r1.length := by omega
  have h1 : (q : Int) < (r1.length : Int) := by omega
  have hd : r1.drop q = r1[q] :: r1.drop (q + 1) := List.drop_eq_getElem_cons hlt
  have hr := h r1[q] (List.getElem_mem hlt)
  rw [z19_s5, hd, wrap_succ (show q < big by omega)]
  simp only [h1, natj, if_true, decide_true, cond_true, Int.toNat_natCast, getD_get hlt]
  rw [z82_q (by omega) hr, prule_ref]
  unfold progS
  cases hs : ruleR r1[q] with
  |none => rfl
  |some u =>
   simp only [outS, obind]
   rw [place_q hn hr.blen]
   simp only [bne_self_eq_false, cond_false]
   cases hp : decide (placeD (ruleD r1[q]) > -2) with
   |true => rfl
   |false =>
    simp only [cond_false]
    rw [arity_q hn hr.blen]
    simp only
    cases ha : decide ((aritD s (ruleD r1[q])).2 > -2) with
    |true => rfl
    |false =>
     simp only [cond_false]
     rw [free_q hn (bodyOk hr)]
     simp only
     cases hf : decide (freeR (ruleD r1[q]) > -2) with
     |true => rfl
     |false =>
      simp only [cond_false]
      rw [open_q hn (bodyOk hr) hr.len]
      simp only
      cases ho : openD (ruleD r1[q]) with
      |true => rfl
      |false => exact ih (q + 1) (by omega) i _ (by omega)
theorem Program_q {n : Nat} {b0 : Bool} {r1 : Rows} (hn : 2000000 < n) (hl : r1.length ≤ 1000) (h : ∀ r ∈ r1, RuleOk n r) : z19_v n b0 r1 = some (outP (progC r1)) := by
 rw [z19_e]
 unfold progC
 cases hd : decide ((r1.length : Int) > 16) with
 |true => rfl
 |false => exact Program_l hn hl h r1.length 0 (by omega) n [] (by omega)
def tmB (t : Tm) : Bool := decide (-9223372036854775808 ≤ t.2.2.1) && (decide (t.2.2.1 ≤ 9223372036854775807) && decide (t.2.2.2.size ≤ 5000))
def argsB : Rows → Bool
 |[] => true
 |r :: l => tmB (tmAt r 0) && argsB l
def litB' (l : Row) : Bool := tmB (tmAt l 0) && (decide ((Row.S l 4).size ≤ 5000) && (decide ((Row.R l 5).length ≤ 1000) && (argsB (Row.R l 5) && tmB (tmAt l 6))))
def litsB : Rows → Bool
 |[] => true
 |r :: l => litB' r && litsB l
def ruleB' (r : Row) : Bool := tmB (tmAt r 0) && (decide ((Row.S r 4).size ≤ 5000) && (decide ((Row.R r 5).length ≤ 1000) && (argsB (Row.R r 5) && (tmB (tmAt r 6) && (decide ((Row.R r 10).length ≤ 1000) && litsB (Row.R r 10))))))
def rulesB : Rows → Bool
 |[] => true
 |r :: l => ruleB' r && rulesB l
theorem tmB_ok {n : Nat} (hn : 10000 < n) {t : Tm} (h : tmB t = true) : TmOk n t := by
 unfold tmB at h
 simp only [Bool.and_eq_true, decide_eq_true_eq] at h
 exact ⟨h.1, h.2.1, by omega, by omega⟩
theorem argsB_ok {n : Nat} (hn : 10000 < n) : ∀ {l : Rows}, argsB l = true → ∀ r ∈ l, TmOk n (tmAt r 0)
 |[], _, r, hr => by cases hr
 |a :: l, h, r, hr => by
  unfold argsB at h
  rw [Bool.and_eq_true] at h
  rcases List.mem_cons.1 hr with rfl | hr
  ·exact tmB_ok hn h.1
  ·exact argsB_ok hn h.2 r hr
theorem litB_ok' {n : Nat} (hn : 10000 < n) {l : Row} (h : litB' l = true) : LitOk n l := by
 unfold litB' at h
 simp only [Bool.and_eq_true, decide_eq_true_eq] at h
 exact ⟨tmB_ok hn h.1, h.2.1, h.2.2.1, argsB_ok hn h.2.2.2.1, tmB_ok hn h.2.2.2.2⟩
theorem litsB_ok {n : Nat} (hn : 10000 < n) : ∀ {l : Rows}, litsB l = true → ∀ r ∈ l, LitOk n r
 |[], _, r, hr => by cases hr
 |a :: l, h, r, hr => by
  unfold litsB at h
  rw [Bool.and_eq_true] at h
  rcases List.mem_cons.1 hr with rfl | hr
  ·exact litB_ok' hn h.1
  ·exact litsB_ok hn h.2 r hr
theorem ruleB_ok' {n : Nat} (hn : 10000 < n) {r : Row} (h : ruleB' r = true) : RuleOk n r := by
 unfold ruleB' at h
 simp only [Bool.and_eq_true, decide_eq_true_eq] at h
 exact ⟨tmB_ok hn h.1, h.2.1, h.2.2.1, argsB_ok hn h.2.2.2.1, tmB_ok hn h.2.2.2.2.1, h.2.2.2.2.2.1, litsB_ok hn h.2.2.2.2.2.2⟩
theorem rulesB_ok {n : Nat} (hn : 10000 < n) : ∀ {l : Rows}, rulesB l = true → ∀ r ∈ l, RuleOk n r
 |[], _, r, hr => by cases hr
 |a :: l, h, r, hr => by
  unfold rulesB at h
  rw [Bool.and_eq_true] at h
  rcases List.mem_cons.1 hr with rfl | hr
  ·exact ruleB_ok' hn h.1
  ·exact rulesB_ok hn h.2 r hr
def rowsOf' (s : ByteArray) : Rows := match parseE s with | .ok l => l | .error _ => []
end Go.Den
