import Derived.Test.YtbdjanjcphgjdaaDoorZ38
set_option linter.unusedVariables false
set_option linter.unusedSimpArgs false
set_option linter.unusedSectionVars false
namespace Go.Den
open Go.Proofs
set_option maxRecDepth 20000
set_option linter.unusedVariables false
theorem bigN_2 : 2000000 < bigN := by unfold bigN reachBytes; omega
theorem obs {α β : Type} (a : α) (f : α → Option β) : obind (some a) f = f a := rfl
theorem rulesOk2 {l : Rows} (h : RowsFine kR l) (hw : weight5 200 l 0 ≤ 200) : l.length ≤ 300 ∧ ∀ r ∈ l, RuleOk bigN r := by
  obtain ⟨h1, h2⟩ := weight5_all2 l 0 h (Int.le_refl _) hw
  exact ⟨by omega, fun r hr => ruleOk (rowsFine_mem h hr) (by have := (h2 r hr).1; omega) (by have := (h2 r hr).2.1; omega) (fun q hq => by have := (h2 r hr).2.2 q hq; omega)⟩
theorem rewL_len : ∀ (l : List RuleD) (i : Nat), (∀ d ∈ l, d.2.2.2.2.length ≤ 1000) → (rewL l i).length ≤ 2001 * l.length
  | [], _, _ => Nat.zero_le _
  | d :: t, i, h => by
    have h1 := oneL_len (i : Int) d d.2.2.2.2 0 [] []
    have h2 := rewL_len t (i + 1) (fun x hx => h x (by simp [hx]))
    have h3 := h d (by simp)
    rw [rewL, List.length_append, List.length_cons]
    simp only [List.length_nil] at h1
    omega
theorem Single_8 {n : Nat} {r1 r9 : Rows} {b0 b8 : Bool} (hn : 2000000 < n) (hl : r1.length ≤ 300) (hr : ∀ r ∈ r1, RuleOk n r) (h9 : r9.length ≤ 1000000) (hb9 : ∀ r ∈ r9, (Row.R r 10).length ≤ 1000000) (hf : ∀ r ∈ r9, flatR (ruleD r)) :
    ∀ k q : Nat, q + k = r1.length → ∀ (i : Nat) (P : List RuleD), k < i → r9.map ruleD = P ++ rewL ((r1.drop q).map ruleD) q →
      law13_LocalSingle_l8 n b0 r1 i b8 r9 (P.length : Int) (q : Int) = some (true, ()) := by
  have hb : 4000000 ≤ big := by unfold big; omega
  intro k
  induction k with
  | zero =>
    intro q hq i P hi hP
    obtain ⟨i, rfl⟩ : ∃ m, i = m + 1 := ⟨i - 1, by omega⟩
    have hnil : r1.drop q = [] := List.drop_eq_nil_of_le (by omega)
    rw [hnil] at hP
    have hpl : r9.length = P.length := by have := congrArg List.length hP; simpa [rewL] using this
    rw [law13_LocalSingle_s8]
    have h1 : ¬ (q : Int) < (r1.length : Int) := by omega
    simp only [h1, decide_false, cond_false]
    rw [← hpl]
    exact Single_22 hn h9 hb9 hf r9.length 0 (by omega) n (by omega)
  | succ k ih =>
    intro q hq i P hi hP
    obtain ⟨i, rfl⟩ : ∃ m, i = m + 1 := ⟨i - 1, by omega⟩
    have hlt : q < r1.length := by omega
    have h1 : (q : Int) < (r1.length : Int) := by omega
    have hd : r1.drop q = r1[q] :: r1.drop (q + 1) := List.drop_eq_getElem_cons hlt
    have hrq := hr r1[q] (List.getElem_mem hlt)
    obtain ⟨pre, re', g1, g2⟩ := oneL_last (q : Int) (ruleD r1[q]) (ruleD r1[q]).2.2.2.2 0 [] []
    simp only [List.length_nil, Nat.zero_add] at g2
    rw [hd, List.map_cons, rewL, g1] at hP
    have hP2 : r9.map ruleD = (P ++ (pre ++ [((ruleD r1[q]).1, (ruleD r1[q]).2.1, (ruleD r1[q]).2.2.1, (ruleD r1[q]).2.2.2.1, re')])) ++ rewL ((r1.drop (q + 1)).map ruleD) (q + 1) := by rw [hP]; simp only [List.append_assoc]
    have hlen : r9.length = P.length + pre.length + 1 + (rewL ((r1.drop (q + 1)).map ruleD) (q + 1)).length := by
      have := congrArg List.length hP2
      simp only [List.length_map, List.length_append, List.length_cons, List.length_nil] at this
      omega
    have ha2 : P.length + pre.length < r9.length := by omega
    have hx : ∀ x, r9[P.length + pre.length]? = some x → ruleD x = ((ruleD r1[q]).1, (ruleD r1[q]).2.1, (ruleD r1[q]).2.2.1, (ruleD r1[q]).2.2.2.1, re') := by
      intro x hx
      have e := congrArg (fun l => l[P.length + pre.length]?) hP2
      simp only [List.getElem?_map, hx, Option.map_some] at e
      rw [List.getElem?_append_left (by simp only [List.length_append, List.length_cons, List.length_nil]; omega), List.getElem?_append_right (by omega), List.getElem?_append_right (by omega)] at e
      simp only [show P.length + pre.length - P.length - pre.length = 0 by omega, List.getElem?_cons_zero] at e
      exact Option.some.inj e
    rw [law13_LocalSingle_s8]
    simp only [h1, decide_true, cond_true]
    have hwa : IntKind.wrap IntKind.i64 ((P.length : Int) + 1) = ((P.length + 1 : Nat) : Int) := wrap_succ (by omega)
    rw [hwa]
    have e3 : (ruleD r1[q]).2.2.2.2 = (Row.R r1[q] 10).map litD := rfl
    have h12 := Single_12 (n := n) (b0 := b0) (b8 := b8) (i0 := i) (r9 := r9) hn hlt (by omega) hrq.blen hrq.len h9 (Row.R r1[q] 10).length 0 (by omega) n (P.length + 1) (P.length + pre.length) (by have := hrq.blen; omega)
      (by rw [List.drop_zero, ← e3]; omega) ha2 (by omega) (fun x hxx => by rw [hx x hxx]; exact ⟨rfl, rfl, rfl, rfl⟩)
    rw [show (0 : Int) = ((0 : Nat) : Int) from rfl, h12]
    have := ih (q + 1) (by omega) i (P ++ (pre ++ [((ruleD r1[q]).1, (ruleD r1[q]).2.1, (ruleD r1[q]).2.2.1, (ruleD r1[q]).2.2.2.1, re')])) (by omega) hP2
    rw [← this]
    congr 2
    simp only [List.length_append, List.length_cons, List.length_nil]
    omega
structure Made (r1 rows : Rows) : Prop where
  data : rows.map ruleD = rewL (r1.map ruleD) 0
  len : rows.length ≤ 1000000
  body : ∀ r ∈ rows, (Row.R r 10).length ≤ 1000000
  flat : ∀ r ∈ rows, flatR (ruleD r)
theorem made {n : Nat} {r1 rows : Rows} (hl : r1.length ≤ 300) (hr : ∀ r ∈ r1, RuleOk n r) (g2 : rows.map ruleD = rewL (r1.map ruleD) 0) : Made r1 rows where
  data := g2
  len := by
    have h1 := rewL_len (r1.map ruleD) 0 (fun d hd => by
      obtain ⟨r, hr', rfl⟩ := List.mem_map.1 hd
      have := (hr r hr').blen
      show ((Row.R r 10).map litD).length ≤ 1000
      rw [List.length_map]; exact this)
    rw [← g2, List.length_map, List.length_map] at h1
    omega
  body := fun r hr' => by
    have h1 := rewL_body (B := 1000) (by omega) (r1.map ruleD) 0 (fun d hd => by
      obtain ⟨r, hr', rfl⟩ := List.mem_map.1 hd
      have := (hr r hr').blen
      show ((Row.R r 10).map litD).length ≤ 1000
      rw [List.length_map]; exact this) (ruleD r) (by rw [← g2]; exact List.mem_map.2 ⟨r, hr', rfl⟩)
    have : (ruleD r).2.2.2.2.length = (Row.R r 10).length := by show ((Row.R r 10).map litD).length = _; rw [List.length_map]
    omega
  flat := fun r hr' => rewL_flat (r1.map ruleD) 0 (ruleD r) (by rw [← g2]; exact List.mem_map.2 ⟨r, hr', rfl⟩)
theorem law13_LocalSingle_pure (b0 : Bool) (r1 : Rows) (h : Fsl b0 kR r1) : ∃ n, law13_LocalSingle_v n b0 r1 = some (true, ()) := by
  refine ⟨bigN, ?_⟩
  have hN := bigN_big
  have hN2 := bigN_2
  have hlv := live13_q (n := bigN) hN2
  rw [law13_LocalSingle_e, weight5_q (by omega) (by omega) h.2.2.1 h.1 (fun r hr => bigN_lt (fineR (rowsFine_mem h.2.2.1 hr)).2.2.1) (bigN_lt h.1), hlv]
  simp only [obs]
  by_cases hw : weight5 200 r1 0 > 200
  · simp only [hw, decide_true, cond_true]
  · simp only [hw, decide_false, cond_false]
    have hok := rulesOk2 h.2.2.1 (by omega)
    rcases Rewrite_q (n := bigN) (r1 := r1) (b0 := b0) hN2 (by have := hok.1; omega) hok.2 with ⟨c, rows, _, g1, g2⟩ | ⟨g0, g1⟩
    · rw [g1]
      simp only [obs, bne_self_eq_false, cond_false]
      have hm := made hok.1 hok.2 g2
      exact Single_8 hN2 hok.1 hok.2 hm.len hm.body hm.flat r1.length 0 (by omega) bigN [] (by have := hok.1; omega) (by rw [List.drop_zero]; exact g2)
    · rw [g1]
      have : ((progC r1).1 != 0) = true := by simpa using g0
      simp only [obs, this, cond_true]
      rfl
end Go.Den
