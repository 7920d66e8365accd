import Derived.Test.YtkgiabbndbmmbaaZ19
import Derived.Test.YtkgiabbndbmmbaaZ05
set_option linter.unusedVariables false
set_option linter.unusedSimpArgs false
set_option linter.unusedSectionVars false
namespace Go.Den
open Go.Proofs
theorem clone_const {n : Nat} {nl : Bool} {rows : Rows} (h : rows.length * 32 ≤ 140737488355328) (hw : nl = true → rows = []) : z29_v n nl rows = some ((nl, rows), ()) := by
 rw [z29_e]
 cases nl with
 |true => rw [hw rfl]; rfl
 |false =>
  simp only [cond_false, Nat.zero_add, h, if_true, appX, List.nil_append, Bool.false_and]
section
variable {n : Nat} {s0 s1 s5 s6 s7 : ByteArray} {b2 b8 : Bool} {r3 r9 : Rows}
end
end Go.Den
namespace Go.Den
abbrev KF := ByteArray × ByteArray × ByteArray × Bool × Rows
def kr (r : Row) : KF := (Row.S r 0, Row.S r 1, Row.S r 2, Row.N r 3, Row.R r 3)
def fcK (k : KF) : Fc := (k.1, k.2.1, k.2.2.1, k.2.2.2.2)
def ordK (a b : KF) : Int := ordF (fcK a) (fcK b)
theorem ordK_ord : IsOrd ordK := ordF_ord.comap fcK
theorem ordK_self (a : KF) : ordK a a = 0 := ordK_ord.self a
theorem ordK_sym {a b : KF} (h : ordK a b = 0) : ordK b a = 0 := by have := ordK_ord.anti a b; omega
theorem ordK_le {a b d : KF} (h : ordK a b ≤ 0) (k : ordK b d ≤ 0) : ordK a d ≤ 0 := ordK_ord.trans _ _ _ h k
theorem ordK_lt_le {a b d : KF} (h : ordK a b < 0) (k : ordK b d ≤ 0) : ordK a d < 0 := by
 have h1 := ordK_ord.trans a b d (by omega) k
 by_cases h2 : ordK a d = 0
 ·have := ordK_ord.zero (a := a) (b := b) (d := d) (by omega) k h2; omega
 ·omega
theorem ordK_le_lt {a b d : KF} (h : ordK a b ≤ 0) (k : ordK b d < 0) : ordK a d < 0 := by
 have h1 := ordK_ord.trans a b d h (by omega)
 by_cases h2 : ordK a d = 0
 ·have := ordK_ord.zero (a := a) (b := b) (d := d) h (by omega) h2; omega
 ·omega
theorem ordK_eq {a b d : KF} (h : ordK a b = 0) (k : ordK b d = 0) : ordK a d = 0 := by
 have h1 := ordK_le (a := a) (b := b) (d := d) (by omega) (by omega)
 have h2 := ordK_sym h
 have h3 := ordK_sym k
 have h4 := ordK_le (a := d) (b := b) (d := a) (by omega) (by omega)
 have := ordK_ord.anti a d
 omega
theorem ordK_neg (a b : KF) : ordK a b = - ordK b a := ordK_ord.anti a b
def Strict (l : List KF) : Prop := l.Pairwise fun a b => ordK a b < 0
def InK (l : List KF) (f : KF) : Prop := ∃ k ∈ l, ordK k f = 0
def likeK : List KF → List KF → Bool
 |[], [] => true
 |a :: l, b :: m => bif ordK a b != 0 then false else likeK l m
 |_, _ => false
theorem like_of : ∀ {a b : List KF}, Strict a → Strict b → (∀ f, InK a f ↔ InK b f) → likeK a b = true
 |[], [], _, _, _ => rfl
 |[], b :: m, _, _, h => by
  obtain ⟨k, hk, _⟩ := (h b).2 ⟨b, List.mem_cons_self, ordK_self b⟩
  cases hk
 |a :: l, [], _, _, h => by
  obtain ⟨k, hk, _⟩ := (h a).1 ⟨a, List.mem_cons_self, ordK_self a⟩
  cases hk
 |a :: l, b :: m, ha, hb, h => by
  have ha' := List.pairwise_cons.1 ha
  have hb' := List.pairwise_cons.1 hb
  have h0 : ordK a b = 0 := by
   obtain ⟨q, hq, e1⟩ := (h a).1 ⟨a, List.mem_cons_self, ordK_self a⟩
   obtain ⟨r, hr, e2⟩ := (h b).2 ⟨b, List.mem_cons_self, ordK_self b⟩
   have g1 : ordK b q ≤ 0 := by
    rcases List.mem_cons.1 hq with rfl | hq
    ·rw [ordK_self]; omega
    ·have := hb'.1 q hq; omega
   have g2 : ordK a r ≤ 0 := by
    rcases List.mem_cons.1 hr with rfl | hr
    ·rw [ordK_self]; omega
    ·have := ha'.1 r hr; omega
   have g3 := ordK_le g1 (show ordK q a ≤ 0 by omega)
   have g4 := ordK_le g2 (show ordK r b ≤ 0 by omega)
   have := ordK_neg a b
   omega
  have hs := ordK_sym h0
  have ih := like_of ha'.2 hb'.2 (fun f => by
   constructor
   ·rintro ⟨r, hr, e⟩
    obtain ⟨q, hq, e2⟩ := (h f).1 ⟨r, List.mem_cons_of_mem _ hr, e⟩
    rcases List.mem_cons.1 hq with rfl | hq
    ·have h1 := ha'.1 r hr
     have h2 : ordK a f = 0 := ordK_eq h0 e2
     have h3 := ordK_lt_le h1 (show ordK r f ≤ 0 by omega)
     omega
    ·exact ⟨q, hq, e2⟩
   ·rintro ⟨r, hr, e⟩
    obtain ⟨q, hq, e2⟩ := (h f).2 ⟨r, List.mem_cons_of_mem _ hr, e⟩
    rcases List.mem_cons.1 hq with rfl | hq
    ·have h1 := hb'.1 r hr
     have h2 : ordK b f = 0 := ordK_eq hs e2
     have h3 := ordK_lt_le h1 (show ordK r f ≤ 0 by omega)
     omega
    ·exact ⟨q, hq, e2⟩)
  unfold likeK
  rw [h0]
  exact ih
def keepK : KF → List KF → List KF
 |_, [] => []
 |p, r :: l => bif ordK r p == 0 then keepK r l else r :: keepK r l
def compK : List KF → List KF
 |[] => []
 |r :: l => r :: keepK r l
theorem keepK_mem : ∀ {l : List KF} {p k : KF}, k ∈ keepK p l → k ∈ l
 |[], p, k, h => by cases h
 |r :: l, p, k, h => by
  unfold keepK at h
  cases hc : ordK r p == 0 with
  |true => rw [hc] at h; exact List.mem_cons_of_mem _ (keepK_mem h)
  |false =>
   rw [hc] at h
   rcases List.mem_cons.1 h with rfl | h
   ·exact List.mem_cons_self
   ·exact List.mem_cons_of_mem _ (keepK_mem h)
theorem keepK_ok : ∀ {l : List KF} {p : KF}, (p :: l).Pairwise (fun a b => ordK a b ≤ 0) → Strict (p :: keepK p l) ∧ ∀ k ∈ p :: l, ∃ q ∈ p :: keepK p l, ordK q k = 0
 |[], p, _ => ⟨List.pairwise_singleton _ _, fun k hk => ⟨k, hk, ordK_self k⟩⟩
 |r :: l, p, h => by
  have h1 := List.pairwise_cons.1 h
  have h2 := List.pairwise_cons.1 h1.2
  obtain ⟨i1, i2⟩ := keepK_ok h1.2
  have i1' := List.pairwise_cons.1 i1
  have hpr := h1.1 r List.mem_cons_self
  unfold keepK
  cases hc : ordK r p == 0 with
  |true =>
   have h0 : ordK r p = 0 := by simpa using hc
   simp only [cond_true]
   refine ⟨List.pairwise_cons.2 ⟨fun k hk => ?_, i1'.2⟩, fun k hk => ?_⟩
   ·have := i1'.1 k hk
    exact ordK_le_lt (show ordK p r ≤ 0 from hpr) this
   ·rcases List.mem_cons.1 hk with rfl | hk
    ·exact ⟨k, List.mem_cons_self, ordK_self k⟩
    ·obtain ⟨q, hq, e⟩ := i2 k hk
     rcases List.mem_cons.1 hq with rfl | hq
     ·exact ⟨p, List.mem_cons_self, ordK_eq (ordK_sym h0) e⟩
     ·exact ⟨q, List.mem_cons_of_mem _ hq, e⟩
  |false =>
   have h0 : ¬ ordK r p = 0 := by simpa using hc
   have hlt : ordK p r < 0 := by have := ordK_neg r p; omega
   simp only [cond_false]
   refine ⟨List.pairwise_cons.2 ⟨fun k hk => ?_, i1⟩, fun k hk => ?_⟩
   ·rcases List.mem_cons.1 hk with rfl | hk
    ·exact hlt
    ·exact ordK_lt_le hlt (by have := i1'.1 k hk; omega)
   ·rcases List.mem_cons.1 hk with rfl | hk
    ·exact ⟨k, List.mem_cons_self, ordK_self k⟩
    ·obtain ⟨q, hq, e⟩ := i2 k hk
     exact ⟨q, List.mem_cons_of_mem _ hq, e⟩
theorem compK_ok : ∀ {l : List KF}, l.Pairwise (fun a b => ordK a b ≤ 0) → Strict (compK l) ∧ (∀ k ∈ compK l, k ∈ l) ∧ ∀ k ∈ l, ∃ q ∈ compK l, ordK q k = 0
 |[], _ => ⟨List.Pairwise.nil, (fun k hk => by cases hk), (fun k hk => by cases hk)⟩
 |r :: l, h => by
  obtain ⟨h1, h2⟩ := keepK_ok h
  refine ⟨h1, fun k hk => ?_, h2⟩
  rcases List.mem_cons.1 hk with rfl | hk
  ·exact List.mem_cons_self
  ·exact List.mem_cons_of_mem _ (keepK_mem hk)
structure Canon (s l : List KF) : Prop where
 strict : Strict s
 mem : ∀ k ∈ s, k ∈ l
 all : ∀ k ∈ l, ∃ q ∈ s, ordK q k = 0
theorem Canon.inK {s l : List KF} (h : Canon s l) (f : KF) : InK s f ↔ InK l f := by
 constructor
 ·rintro ⟨k, hk, e⟩; exact ⟨k, h.mem k hk, e⟩
 ·rintro ⟨k, hk, e⟩
  obtain ⟨q, hq, e2⟩ := h.all k hk
  exact ⟨q, hq, ordK_eq e2 e⟩
end Go.Den
namespace Go.Den
open Go.Proofs
section
variable {n : Nat} {b0 : Bool} {most : Int} (hm0 : 0 ≤ most) (hm : most ≤ 1000000)
include hm0 hm
end
end Go.Den
namespace Go.Den
open Go.Proofs
def SmallR (r : Row) : Prop := (Row.R r 3).length ≤ 500 ∧ (Row.N r 3 = true → Row.R r 3 = [])
def SmallL (l : Rows) : Prop := ∀ r ∈ l, SmallR r
def SmallK (k : KF) : Prop := k.2.2.2.2.length ≤ 500 ∧ (k.2.2.2.1 = true → k.2.2.2.2 = [])
theorem SmallL.of {l m : Rows} (h : SmallL m) (hk : ∀ k ∈ l.map kr, k ∈ m.map kr) : SmallL l := fun r hr => by
 obtain ⟨q, hq, e⟩ := List.mem_map.1 (hk (kr r) (List.mem_map_of_mem hr))
 have := h q hq
 unfold SmallR at this ⊢
 have e1 : Row.N q 3 = Row.N r 3 := congrArg (fun k : KF => k.2.2.2.1) e
 have e2 : Row.R q 3 = Row.R r 3 := congrArg (fun k : KF => k.2.2.2.2) e
 rw [← e1, ← e2]; exact this
section
variable {n : Nat} (hn : 1000 < n)
include hn
theorem order_rows {r q : Row} (h : (Row.R r 3).length ≤ 500) : z42_v n (Row.S r 0) (Row.S r 1) (Row.S r 2) (Row.N r 3) (Row.R r 3) (Row.S q 0) (Row.S q 1) (Row.S q 2) (Row.N q 3) (Row.R q 3) = some (ordK (kr r) (kr q), ()) := z42_q (by unfold big; omega) (by omega) (by omega)
omit hn in
def kf (s2 s3 s4 : ByteArray) (b5 : Bool) (r6 : Rows) : KF := (s2, s3, s4, b5, r6)
omit hn in
omit hn in
end
end Go.Den
namespace Go.Den
open Go.Proofs
theorem take_set_succ {α : Type} : ∀ (l : List α) (i : Nat) (a : α), i < l.length → (l.set i a).take (i + 1) = l.take i ++ [a]
 |[], i, a, h => by simp at h
 |x :: l, 0, a, _ => by simp
 |x :: l, i + 1, a, h => by
  rw [List.set_cons_succ, List.take_succ_cons, take_set_succ l i a (by simpa using h)]; rfl
theorem getD_set_ne {l : Rows} {i t : Nat} {a : Row} (h : i ≠ t) : (l.set i a).getD t [] = l.getD t [] := by
 rw [List.getD_eq_getElem?_getD, List.getD_eq_getElem?_getD, List.getElem?_set_ne h]
section
variable {n : Nat} (hn : 1000 < n)
include hn
theorem comp_inner {r2 : Rows} (hr : SmallL r2) (hl : r2.length ≤ 1000) {i0 k0 : Nat} : ∀ k p : Nat, k0 + p + 1 + k = r2.length → ∀ f i r12, k < f → i ≤ k0 + p → r12.length = r2.length → (∀ t, k0 + p ≤ t → r12.getD t [] = r2.getD t []) →
  ∃ i' c' r', z2_l9 n r2.length r2.length r2 i0 f (i : Int) k0 (r2.length - k0) (r2.length - k0) ((p + 1 : Nat) : Int) r12 = some ((i', c'), ((r', ()), ())) ∧ i' ≤ r'.length ∧
   (r'.take i').map kr = (r12.take i).map kr ++ keepK (kr (r2.getD (k0 + p) [])) ((r2.drop (k0 + p + 1)).map kr) := by
 intro k
 induction k with
 |zero =>
  intro p hp f i r12 hf hi h12 hs
  obtain ⟨f, rfl⟩ : ∃ z, f = z + 1 := ⟨f - 1, by omega⟩
  have hd : r2.drop (k0 + p + 1) = [] := List.drop_eq_nil_of_le (by omega)
  rw [z2_s9, hd]
  have h1 : ¬ (((p + 1 : Nat) : Int) < ((r2.length - k0 : Nat) : Int)) := by omega
  have h0 : (0 : Int) ≤ (i : Int) := by omega
  have h2 : (i : Int) ≤ (r2.length : Int) := by omega
  have h3 : 0 + i + (r2.length - i) ≤ r12.length := by omega
  simp only [h1, decide_false, cond_false, h0, h2, Int.le_refl, if_true, Int.toNat_natCast, h3, List.map_nil, keepK, List.append_nil, Nat.sub_zero, Nat.zero_add]
  have h3' : i + (r2.length - i) ≤ r12.length := by omega
  simp only [h3', if_true]
  have ht : (r12.take i).length = i := by rw [List.length_take]; omega
  refine ⟨_, _, _, rfl, ?_, ?_⟩
  ·simp only [List.length_append, ht]; omega
  ·rw [List.append_assoc, List.take_append_of_le_length (by omega), List.take_of_length_le (by omega)]
 |succ k ih =>
  intro p hp f i r12 hf hi h12 hs
  obtain ⟨f, rfl⟩ : ∃ z, f = z + 1 := ⟨f - 1, by omega⟩
  have hlt : k0 + p + 1 < r2.length := by omega
  have hlt0 : k0 + p < r2.length := by omega
  have h1 : ((p + 1 : Nat) : Int) < ((r2.length - k0 : Nat) : Int) := by omega
  have h0 : (0 : Int) ≤ ((p + 1 : Nat) : Int) := by omega
  have e1 : IntKind.wrap IntKind.i64 (((p + 1 : Nat) : Int) - 1) = (p : Int) := by
   rw [show ((p + 1 : Nat) : Int) - 1 = (p : Int) by omega]
   exact wrap_small (by omega) (by omega)
  have h2 : (0 : Int) ≤ (p : Int) := by omega
  have h3 : (p : Int) < ((r2.length - k0 : Nat) : Int) := by omega
  have g1 : k0 + (p + 1) < r12.length := by omega
  have g2 : k0 + p < r12.length := by omega
  have a1 : r12.getD (k0 + (p + 1)) [] = r2[k0 + p + 1] := by rw [hs _ (by omega), ← getD_get hlt]; rfl
  have a2 : r12.getD (k0 + p) [] = r2[k0 + p] := by rw [hs _ (by omega), getD_get hlt0]
  have ho := order_rows hn (r := r2[k0 + p + 1]) (q := r2[k0 + p]) (hr _ (List.getElem_mem hlt)).1
  rw [z2_s9, List.drop_eq_getElem_cons hlt, wrap_succ (show p + 1 < big by unfold big; omega), wrap_succ (show i < big by unfold big; omega)]
  simp only [h1, h0, h2, h3, e1, decide_true, cond_true, if_true, Int.toNat_natCast, g1, g2, a1, a2, z36_e, ho, obind_some, List.map_cons, keepK, getD_get hlt0]
  cases hc : ordK (kr r2[k0 + p + 1]) (kr r2[k0 + p]) == 0 with
  |true =>
   simp only [Bool.not_true, cond_false, cond_true]
   obtain ⟨i', c', r', e2, e3, e4⟩ := ih (p + 1) (by omega) f i r12 (by omega) (by omega) h12 (fun t ht => hs t (by omega))
   refine ⟨i', c', r', e2, e3, ?_⟩
   rw [e4, ← getD_get hlt]; rfl
  |false =>
   have j0 : (0 : Int) ≤ (i : Int) := by omega
   have j1 : (i : Int) < (r2.length : Int) := by omega
   have j2 : 0 + i < r12.length := by omega
   have j2' : i < r12.length := by omega
   simp only [Bool.not_false, cond_true, cond_false, j0, j1, j2, if_true]
   refine (ih (p + 1) (by omega) f (i + 1) _ (by omega) (by omega) ?_ ?_).imp fun i' h => h.imp fun c' h => h.imp fun r' h => ⟨h.1, h.2.1, h.2.2.trans ?_⟩
   ·rw [List.length_set]; exact h12
   ·intro t ht
    rw [getD_set_ne (by omega)]; exact hs t (by omega)
   ·rw [Nat.zero_add, take_set_succ _ _ _ j2', List.map_append, List.append_assoc, ← getD_get hlt]
    rfl
theorem comp_scan {r2 : Rows} (hr : SmallL r2) (hl : r2.length ≤ 1000) : ∀ k p : Nat, p + 1 + k = r2.length → ∀ f, k < f →
  ∃ i' c' r', z2_l4 n r2.length r2.length r2 f ((p + 1 : Nat) : Int) = some ((i', c'), ((r', ()), ())) ∧ i' ≤ r'.length ∧
   (r'.take i').map kr = (r2.take (p + 1)).map kr ++ keepK (kr (r2.getD p [])) ((r2.drop (p + 1)).map kr) := by
 intro k
 induction k with
 |zero =>
  intro p hp f hf
  obtain ⟨f, rfl⟩ : ∃ z, f = z + 1 := ⟨f - 1, by omega⟩
  rw [z2_s4, List.drop_eq_nil_of_le (by omega)]
  have h1 : ¬ (((p + 1 : Nat) : Int) < (r2.length : Int)) := by omega
  simp only [h1, decide_false, cond_false, List.map_nil, keepK, List.append_nil]
  refine ⟨_, _, _, rfl, Nat.le_refl _, ?_⟩
  rw [show p + 1 = r2.length by omega]
 |succ k ih =>
  intro p hp f hf
  obtain ⟨f, rfl⟩ : ∃ z, f = z + 1 := ⟨f - 1, by omega⟩
  have hlt : p + 1 < r2.length := by omega
  have hlt0 : p < r2.length := by omega
  have h1 : ((p + 1 : Nat) : Int) < (r2.length : Int) := by omega
  have h0 : (0 : Int) ≤ ((p + 1 : Nat) : Int) := by omega
  have e1 : IntKind.wrap IntKind.i64 (((p + 1 : Nat) : Int) - 1) = (p : Int) := by
   rw [show ((p + 1 : Nat) : Int) - 1 = (p : Int) by omega]
   exact wrap_small (by omega) (by omega)
  have h2 : (0 : Int) ≤ (p : Int) := by omega
  have h3 : (p : Int) < (r2.length : Int) := by omega
  have h4 : ((p + 1 : Nat) : Int) ≤ (r2.length : Int) := by omega
  have ho := order_rows hn (r := r2[p + 1]) (q := r2[p]) (hr _ (List.getElem_mem hlt)).1
  rw [z2_s4, List.drop_eq_getElem_cons hlt, wrap_succ (show p + 1 < big by unfold big; omega)]
  simp only [h1, h0, h2, h3, h4, e1, decide_true, cond_true, if_true, Int.toNat_natCast, Nat.zero_add, hlt, hlt0, getD_get hlt, getD_get hlt0, z36_e, ho, obind_some, List.map_cons, keepK, Int.le_refl]
  cases hc : ordK (kr r2[p + 1]) (kr r2[p]) == 0 with
  |true =>
   simp only [cond_true]
   obtain ⟨i', c', r', e2, e3, e4⟩ := comp_inner (n := n) hn hr hl (i0 := f) (k0 := p + 1) k 0 (by omega) n (p + 1) r2 (by omega) (by omega) rfl (fun _ _ => rfl)
   refine ⟨i', c', r', e2, e3, ?_⟩
   simp only [Nat.add_zero] at e4
   rw [e4, getD_get hlt]
  |false =>
   simp only [cond_false]
   obtain ⟨i', c', r', e2, e3, e4⟩ := ih (p + 1) (by omega) f (by omega)
   refine ⟨i', c', r', e2, e3, ?_⟩
   rw [e4, getD_get hlt, List.take_succ_eq_append_getElem hlt]
   simp only [List.map_append, List.map_cons, List.map_nil, List.append_assoc, List.singleton_append]
theorem compact_q {r2 : Rows} (hr : SmallL r2) (hl : r2.length ≤ 1000) (hne : r2 ≠ []) :
  ∃ i' c' r', z2_v n r2.length r2.length r2 = some ((i', c'), ((r', ()), ())) ∧ i' ≤ r'.length ∧ (r'.take i').map kr = compK (r2.map kr) := by
 have h0 : 0 < r2.length := List.length_pos_iff.2 hne
 rw [z2_e]
 obtain ⟨r, l, rfl⟩ : ∃ r l, r2 = r :: l := by cases r2 with | nil => exact absurd rfl hne | cons r l => exact ⟨r, l, rfl⟩
 by_cases h : ((r :: l).length : Int) < 2
 ·simp only [h, decide_true, cond_true]
  refine ⟨_, _, _, rfl, Nat.le_refl _, ?_⟩
  have : l = [] := by simp only [List.length_cons] at h; exact List.length_eq_zero_iff.1 (by omega)
  subst this
  rfl
 ·simp only [h, decide_false, cond_false]
  obtain ⟨i', c', r', e2, e3, e4⟩ := comp_scan (n := n) hn hr hl l.length 0 (by simp; omega) n (by simp only [List.length_cons] at hl; omega)
  exact ⟨i', c', r', e2, e3, by rw [e4]; rfl⟩
theorem clone_small {r : Row} (h : SmallR r) : z29_v n (Row.N r 3) (Row.R r 3) = some ((Row.N r 3, Row.R r 3), ()) := clone_const (by have := h.1; omega) h.2
theorem sorted_end {r6 : Rows} (hr : SmallL r6) (hl : r6.length ≤ 1000) {b5 : Bool} (hb : b5 = true → r6 = []) :
  ∃ z rows, (bif b5 || List.isEmpty r6 then
  obind (slices_SortFunc_fact_Order_v n b5 []) fun y9 =>
  obind (z6_v n b5 []) fun y10 =>
  some ((y10.fst.fst, y10.fst.snd), ())
 else obind (slices_SortFunc_mz_fact_Order_v n (List.length r6) (List.length r6) r6) fun y11 =>
 obind (z2_v n (List.length r6) (List.length r6) y11.snd.fst.fst) fun y12 =>
 if 0 + y12.fst.fst ≤ List.length y12.snd.fst.fst then
  some ((false, List.take y12.fst.fst (List.drop 0 y12.snd.fst.fst)), ())
 else none) = some (((z, rows), ()) : (Bool × Rows) × Unit) ∧ Canon (rows.map kr) (r6.map kr) ∧ (z = true → rows = []) ∧ rows.length ≤ r6.length := by
 cases he : b5 || List.isEmpty r6 with
 |true =>
  have : r6 = [] := by
   rcases Bool.or_eq_true_iff.1 he with h | h
   ·exact hb h
   ·cases r6 with | nil => rfl | cons _ _ => cases h
  subst this
  simp only [cond_true]
  have h1 : slices_SortFunc_fact_Order_v n b5 [] = some ((), ()) := rfl
  have h2 : z6_v n b5 [] = some ((b5, []), ()) := by rw [z6_e]; rfl
  simp only [h1, h2, obind_some]
  exact ⟨_, _, rfl, ⟨List.Pairwise.nil, (fun k hk => by cases hk), (fun k hk => by cases hk)⟩, fun _ => rfl, Nat.le_refl _⟩
 |false =>
  have hne : r6 ≠ [] := by rintro rfl; simp at he
  have hem : r6.isEmpty = false := by cases r6 with | nil => exact absurd rfl hne | cons _ _ => rfl
  simp only [cond_false]
  have hargs : argsOk n r6 = true := argsOk_of fun r h => by have := (hr r h).1; unfold big; omega
  have h1 : slices_SortFunc_mz_fact_Order_v n r6.length r6.length r6 = some ((), ((sortR ordR r6, ()), ())) := by
   unfold slices_SortFunc_mz_fact_Order_v
   have c : (Nat.beq r6.length r6.length && !r6.isEmpty && Nat.blt r6.length 4611686018427387904 && Nat.blt 10 n && argsOk n r6) = true := by
    rw [hargs, hem]
    simp only [Bool.not_false, Bool.and_true, Bool.and_eq_true, Nat.blt_eq]
    exact ⟨⟨Nat.beq_refl _, by omega⟩, by omega⟩
   rw [c]
  have hlen := sortR_length (c := ordR) (rows := r6) (ordR_swo r6)
  have hperm := sortR_perm (c := ordR) (rows := r6) (ordR_swo r6)
  have hsort := sortR_sorted (c := ordR) (rows := r6) (ordR_swo r6)
  have hr2 : SmallL (sortR ordR r6) := fun r h => hr r (hperm.mem_iff.1 h)
  obtain ⟨i', c', r', e1, e2, e3⟩ := compact_q (n := n) hn hr2 (by omega) (by rintro h; rw [h] at hlen; exact hne (List.length_eq_zero_iff.1 hlen.symm))
  rw [hlen] at e1
  simp only [h1, obind_some, e1, Nat.zero_add, e2, if_true, List.drop_zero]
  have hpw : ((sortR ordR r6).map kr).Pairwise (fun a b => ordK a b ≤ 0) := by
   rw [List.pairwise_map]
   refine hsort.imp fun {r q} h => ?_
   have h' : ¬ ordK (kr q) (kr r) < 0 := h
   have := ordK_neg (kr q) (kr r)
   omega
  obtain ⟨p1, p2, p3⟩ := compK_ok hpw
  have hmem : ∀ k, k ∈ (sortR ordR r6).map kr ↔ k ∈ r6.map kr := fun k => (hperm.map kr).mem_iff
  refine ⟨_, _, rfl, ?_, (fun h => by cases h), ?_⟩
  ·rw [e3]
   exact ⟨p1, fun k hk => (hmem k).1 (p2 k hk), fun k hk => p3 k ((hmem k).2 hk)⟩
  ·have h4 := congrArg List.length e3
   have h5 : ∀ l : List KF, (compK l).length ≤ l.length := by
    have h6 : ∀ (l : List KF) (p : KF), (keepK p l).length ≤ l.length := by
     intro l
     induction l with
     |nil => intro p; simp [keepK]
     |cons r l ih =>
      intro p
      unfold keepK
      have := ih r
      cases ordK r p == 0 <;> simp only [cond_true, cond_false, List.length_cons] <;> omega
    intro l
    cases l with
    |nil => simp [compK]
    |cons r l => have := h6 l r; simp only [compK, List.length_cons]; omega
   have h6 := h5 ((sortR ordR r6).map kr)
   simp only [List.length_map] at h4 h6
   omega
theorem sorted_loop {b0 : Bool} {r1 : Rows} (hr : SmallL r1) (hl : r1.length ≤ 500) : ∀ k q : Nat, q + k = r1.length → ∀ f (z : Bool) (acc : Rows), k < f → acc.map kr = (r1.take q).map kr → (z = true → acc = []) →
  ∃ y rows, z40_l3 n b0 r1 f z acc (q : Int) = some ((y, rows), ()) ∧ Canon (rows.map kr) (r1.map kr) ∧ (y = true → rows = []) ∧ rows.length ≤ r1.length := by
 intro k
 induction k with
 |zero =>
  intro q hq f z acc hf ha hz
  obtain ⟨f, rfl⟩ : ∃ z, f = z + 1 := ⟨f - 1, by omega⟩
  rw [z40_s3]
  have h1 : ¬ ((q : Int) < (r1.length : Int)) := by omega
  simp only [h1, decide_false, cond_false]
  rw [List.take_of_length_le (by omega)] at ha
  have hlen := congrArg List.length ha
  simp only [List.length_map] at hlen
  obtain ⟨y, rows, e1, e2, e3, e4⟩ := sorted_end (n := n) hn (r6 := acc) (hr.of (fun k hk => by rw [← ha]; exact hk)) (by omega) hz
  exact ⟨y, rows, e1, by rw [← ha]; exact e2, e3, by omega⟩
 |succ k ih =>
  intro q hq f z acc hf ha hz
  obtain ⟨f, rfl⟩ : ∃ z, f = z + 1 := ⟨f - 1, by omega⟩
  have hlt : q < r1.length := by omega
  have h1 : (q : Int) < (r1.length : Int) := by omega
  have h0 : (0 : Int) ≤ (q : Int) := by omega
  have hs := hr _ (List.getElem_mem hlt)
  have hlen := congrArg List.length ha
  simp only [List.length_map, List.length_take] at hlen
  have c2 : (acc.length + 1) * 72 ≤ 140737488355328 := by omega
  rw [z40_s3, wrap_succ (show q < big by unfold big; omega)]
  simp only [h1, h0, decide_true, cond_true, if_true, Int.toNat_natCast, getD_get hlt, clone_small hn hs, obind_some, List.length_cons, List.length_nil, Nat.zero_add, c2, List.isEmpty_cons, Bool.and_false, appX]
  refine ih (q + 1) (by omega) f false _ (by omega) ?_ (fun h => by cases h)
  rw [List.map_append, ha, List.take_succ_eq_append_getElem hlt, List.map_append]
  rfl
theorem sorted_q {b0 : Bool} {r1 : Rows} (hr : SmallL r1) (hl : r1.length ≤ 500) :
  ∃ y rows, z40_v n b0 r1 = some ((y, rows), ()) ∧ Canon (rows.map kr) (r1.map kr) ∧ (y = true → rows = []) ∧ rows.length ≤ r1.length ∧ SmallL rows := by
 rw [z40_e]
 obtain ⟨y, rows, e1, e2, e3, e4⟩ := sorted_loop (n := n) (b0 := b0) hn hr hl r1.length 0 (by omega) n true [] (by omega) (by simp) (fun _ => rfl)
 exact ⟨y, rows, e1, e2, e3, e4, hr.of e2.mem⟩
end
end Go.Den
namespace Go.Den
open Go.Proofs
theorem inK_congr {l : List KF} {k f : KF} (h : ordK k f = 0) : InK l k ↔ InK l f := by
 constructor
 ·rintro ⟨q, hq, e⟩; exact ⟨q, hq, ordK_eq e h⟩
 ·rintro ⟨q, hq, e⟩; exact ⟨q, hq, ordK_eq e (ordK_sym h)⟩
section
variable {n : Nat} (hn : 1000 < n)
include hn
end
end Go.Den
namespace Go.Den
open Go.Proofs
section
variable {n : Nat} {b0 b2 : Bool} {r1 r3 : Rows}
end
end Go.Den
