import Derived.Test.YtlpnccpagikioaaDoorDen0
import Derived.Laws.CopyRow
import Derived.Laws.Cells
import Derived.Laws.AppendOwn
set_option linter.unusedVariables false
set_option linter.unusedSimpArgs false
set_option linter.unusedSectionVars false
/- What abstract values stand for in a world. -/
namespace Go.Den
mutual
theorem AV.force_eq {R : Type} : ∀ (a : AV) (k : AV → Option R), AV.force a k = k a
  | .dv d, k => rfl
  | .sl n ks rows r, k => rfl
  | .agg cs, k => by unfold AV.force; rw [AV.forceL_eq]
  | .tup cs, k => by unfold AV.force; rw [AV.forceL_eq]
  | .pl i off, k => rfl
  | .pv ks row off, k => rfl
  | .fn f caps, k => by unfold AV.force; rw [AV.forceL_eq]
  | .ifc t v, k => by unfold AV.force; rw [AV.force_eq]
  | .ms i ks off n c, k => rfl
  | .pa i ks a b, k => rfl
  | .arr ks rows, k => rfl
  | .junk, k => rfl
theorem AV.forceL_eq {R : Type} : ∀ (l : List AV) (k : List AV → Option R), AV.forceL l k = k l
  | [], k => rfl
  | a :: l, k => by unfold AV.forceL; rw [AV.force_eq, AV.forceL_eq]
end
theorem forceM_eq {R : Type} : ∀ (m : Mem) (k : Mem → Option R), forceM m k = k m
  | [], k => rfl
  | (i, cs) :: m, k => by unfold forceM; rw [AV.forceL_eq, forceM_eq]
theorem forceN_eq {R : Type} : ∀ (l : List Nat) (k : List Nat → Option R), forceN l k = k l
  | [], k => rfl
  | a :: l, k => by unfold forceN; rw [forceN_eq]
theorem forceNN_eq {R : Type} : ∀ (l : List (List Nat)) (k : List (List Nat) → Option R), forceNN l k = k l
  | [], k => rfl
  | a :: l, k => by unfold forceNN; rw [forceN_eq, forceNN_eq]
theorem Eff.force_eq {R : Type} (e : Eff) (k : Eff → Option R) : e.force k = k e := by
  cases e with
  | pure r => exact AV.force_eq r _
  | full r p ks wr =>
    refine (AV.force_eq r _).trans ?_
    rw [forceN_eq, forceN_eq, forceM_eq]
theorem El.force_eq {R : Type} (e : El) (k : El → Option R) : e.force k = k e := by
  obtain ⟨o, eff, want, tch, nm, p, ks⟩ := e
  refine (forceN_eq tch _).trans ?_
  rw [forceN_eq, forceN_eq, forceN_eq, Eff.force_eq]
theorem forceEls_eq {R : Type} : ∀ (l : List El) (k : List El → Option R), forceEls l k = k l
  | [], k => rfl
  | a :: l, k => by unfold forceEls; rw [forceEls_eq]
theorem St.force_eq {R : Type} (s : St) (k : St → Option R) : s.force k = k s := by unfold St.force; rw [AV.forceL_eq, forceM_eq]
theorem forceSp_eq {R : Type} : ∀ (l : List (List Nat)) (k : List (List Nat) → Option R), forceSp l k = k l
  | [], k => rfl
  | a :: l, k => by unfold forceSp; rw [forceSp_eq]
theorem befsK_eq {R : Type} : ∀ (l : List Oper) (acc : List (List Nat)) (k : List (List Nat) → Option R), befsK l acc k = k (befs l acc)
  | [], acc, k => rfl
  | o :: l, acc, k => by unfold befsK befs; rw [forceN_eq, forceSp_eq, befsK_eq]
theorem regN_eq {R : Type} (B : List (List Nat)) (acc : List El) (el : El) (s : St) (go : List El → St → Option R) : regN B acc el s go = if okAll B acc.length 0 acc el then go (acc ++ [el]) s else none := by
  unfold regN
  rw [El.force_eq, forceEls_eq, St.force_eq]
abbrev Mm := Nat → Nat → Option Value

mutual
inductive RepD (M : Mm) : DV → Value → Prop
  | val (v : Value) : v.oneCell' = true → RepD M (.val v) v
  | nil (ks : List Kd) : RepD M (.sl true ks []) (.slice none 0 0)
  | sl (ks : List Kd) (rows : Rows) (a : Addr) (c : Nat) : rows.length ≤ c → (rows ≠ [] → a.spot = none) → RowsAt M a.block a.off ks rows →
      RepD M (.sl false ks rows) (.slice (some a) rows.length c)
inductive RowsAt (M : Mm) : Nat → Nat → List Kd → Rows → Prop
  | nil (b o : Nat) (ks : List Kd) : RowsAt M b o ks []
  | cons (b o : Nat) (ks : List Kd) (row : Row) (rows : Rows) : Row.ofKds ks row = true → CellsAt M b o row → RowsAt M b (o + ks.length) ks rows → RowsAt M b o ks (row :: rows)
inductive CellsAt (M : Mm) : Nat → Nat → Row → Prop
  | nil (b o : Nat) : CellsAt M b o []
  | cons (b o : Nat) (d : DV) (v : Value) (r : Row) : M b o = some v → RepD M d v → CellsAt M b (o + 1) r → CellsAt M b o (d :: r)
end

def Sub (M M' : Mm) : Prop := ∀ b o v, M b o = some v → M' b o = some v
theorem Sub.refl (M : Mm) : Sub M M := fun _ _ _ h => h
theorem Sub.trans {M M' M'' : Mm} (h : Sub M M') (h' : Sub M' M'') : Sub M M'' := fun b o v e => h' b o v (h b o v e)

mutual
theorem RepD.mono {M M' : Mm} (h : Sub M M') : ∀ {d v}, RepD M d v → RepD M' d v
  | _, _, .val v h => .val v h
  | _, _, .nil ks => .nil ks
  | _, _, .sl ks rows a c h1 h2 h3 => .sl ks rows a c h1 h2 (RowsAt.mono h h3)
theorem RowsAt.mono {M M' : Mm} (h : Sub M M') : ∀ {b o ks rows}, RowsAt M b o ks rows → RowsAt M' b o ks rows
  | _, _, _, _, .nil b o ks => .nil b o ks
  | _, _, _, _, .cons b o ks row rows h1 h2 h3 => .cons b o ks row rows h1 (CellsAt.mono h h2) (RowsAt.mono h h3)
theorem CellsAt.mono {M M' : Mm} (h : Sub M M') : ∀ {b o r}, CellsAt M b o r → CellsAt M' b o r
  | _, _, _, .nil b o => .nil b o
  | _, _, _, .cons b o d v r h1 h2 h3 => .cons b o d v r (h b o v h1) (RepD.mono h h2) (CellsAt.mono h h3)
end

structure X where
  M : Mm
  loc : Nat → Option Nat
  tk : Nat → Option (Value × Nat)   -- a token's slice, and its element's size
  cap : Nat → Nat   -- how many cells a slot has at least
  M0 : Mm           -- what was known at first

def RtOk (x : X) (r : Right) (d : DV) (v : Value) (sz : Nat) : Prop :=
  match r with
  | .no => True
  | .ex => ∃ a n, v = .slice a n n
  | .tok k => x.tk k = some (v, sz)
  | .old => RepD x.M0 d v

mutual
inductive Rep (x : X) : AV → Value → Prop
  | dv (d : DV) (v : Value) : RepD x.M d v → Rep x (.dv d) v
  | sl (n : Bool) (ks : List Kd) (rows : Rows) (r : Right) (v : Value) : RepD x.M (.sl n ks rows) v → RtOk x r (.sl n ks rows) v ks.length → Rep x (.sl n ks rows r) v
  | agg (cs : List AV) (vs : List Value) : RepL x cs vs → Rep x (.agg cs) (.agg ⟨vs⟩)
  | tup (cs : List AV) (vs : List Value) : RepL x cs vs → Rep x (.tup cs) (.tuple ⟨vs⟩)
  | pl (k off b : Nat) : x.loc k = some b → Rep x (.pl k off) (.pointer (some ⟨b, off, none⟩))
  | pv (ks : List Kd) (row : Row) (off b o : Nat) : Row.ofKds ks row = true → CellsAt x.M b o row → Rep x (.pv ks row off) (.pointer (some ⟨b, o + off, none⟩))
  | fn (f : FuncId) (cs : List AV) (vs : List Value) : RepL x cs vs → Rep x (.fn f cs) (.func (.func f) #[] ⟨vs⟩)
  | ifc (t : TypeId) (a : AV) (v : Value) : Rep x a v → Rep x (.ifc t a) (.iface t v)
  | ms (k : Nat) (ks : List Kd) (off n c b o c' : Nat) : x.loc k = some b → n ≤ c → (0 < c' → o = off * ks.length) → c ≤ c' ∧ o + c' * ks.length ≤ x.cap k ∧ c' ≤ maxLen → Rep x (.ms k ks off n c) (.slice (some ⟨b, o, none⟩) n c')
  | pa (k : Nat) (ks : List Kd) (i j b : Nat) : x.loc k = some b → Rep x (.pa k ks i j) (.pointer (some ⟨b, i * ks.length + j, none⟩))
  | junk (v : Value) : Rep x .junk v
inductive RepL (x : X) : List AV → List Value → Prop
  | nil : RepL x [] []
  | cons (a : AV) (v : Value) (l : List AV) (vs : List Value) : Rep x a v → RepL x l vs → RepL x (a :: l) (v :: vs)
end

/-- x' knows what x knew, but of the slots p and the tokens ks. -/
structure Ext (x x' : X) (p ks : List Nat) : Prop where
  M : Sub x.M x'.M
  loc : ∀ k b, mem k p = false → x.loc k = some b → x'.loc k = some b
  tk : ∀ k z, mem k ks = false → x.tk k = some z → x'.tk k = some z
  cap : ∀ k, mem k p = false → x'.cap k = x.cap k
  M0 : x'.M0 = x.M0

theorem Ext.refl (x : X) (p ks : List Nat) : Ext x x p ks := ⟨Sub.refl _, fun _ _ _ h => h, fun _ _ _ h => h, fun _ _ => rfl, rfl⟩
theorem mem_nil (k : Nat) : mem k [] = false := rfl

theorem RtOk.scrub {x x' : X} {p ks : List Nat} (h : Ext x x' p ks) {r d v sz} (hr : RtOk x r d v sz) : RtOk x' (r.scrub ks) d v sz := by
  cases r with
  | no => trivial
  | ex => exact hr
  | tok k =>
    show RtOk x' (if mem k ks = true then Right.no else Right.tok k) d v sz
    by_cases hk : mem k ks = true
    · rw [if_pos hk]; trivial
    · rw [if_neg hk]; exact h.tk k _ (by simpa using hk) hr
  | old => show RepD x'.M0 d v; rw [h.M0]; exact hr

mutual
theorem Rep.scrub {x x' : X} {p ks : List Nat} (h : Ext x x' p ks) : ∀ {a v}, Rep x a v → Rep x' (AV.scrub p ks a) v
  | _, _, .dv d v hd => by unfold AV.scrub; exact .dv d v (hd.mono h.M)
  | _, _, .sl n kd rows r v hd hr => by unfold AV.scrub; exact .sl n kd rows _ v (hd.mono h.M) (hr.scrub h)
  | _, _, .agg cs vs hl => by unfold AV.scrub; exact .agg _ vs (RepL.scrub h hl)
  | _, _, .tup cs vs hl => by unfold AV.scrub; exact .tup _ vs (RepL.scrub h hl)
  | _, _, .pl k off b hk => by
    unfold AV.scrub
    by_cases hm : mem k p = true
    · rw [if_pos hm]; exact .junk _
    · rw [if_neg hm]; exact .pl k off b (h.loc k b (by simpa using hm) hk)
  | _, _, .pv kd row off b o h1 h2 => by unfold AV.scrub; exact .pv kd row off b o h1 (h2.mono h.M)
  | _, _, .fn f cs vs hl => by unfold AV.scrub; exact .fn f _ vs (RepL.scrub h hl)
  | _, _, .ifc t a v ha => by unfold AV.scrub; exact .ifc t _ v (Rep.scrub h ha)
  | _, _, .ms k kd off n c b o c' hk g1 g2 g3 => by
    unfold AV.scrub
    by_cases hm : mem k p = true
    · rw [if_pos hm]; exact .junk _
    · rw [if_neg hm]; exact .ms k kd off n c b o c' (h.loc k b (by simpa using hm) hk) g1 g2 (by rw [h.cap k (by simpa using hm)]; exact g3)
  | _, _, .pa k kd i j b hk => by
    unfold AV.scrub
    by_cases hm : mem k p = true
    · rw [if_pos hm]; exact .junk _
    · rw [if_neg hm]; exact .pa k kd i j b (h.loc k b (by simpa using hm) hk)
  | _, _, .junk v => by unfold AV.scrub; exact .junk v
theorem RepL.scrub {x x' : X} {p ks : List Nat} (h : Ext x x' p ks) : ∀ {l vs}, RepL x l vs → RepL x' (AV.scrubL p ks l) vs
  | _, _, .nil => by unfold AV.scrubL; exact .nil
  | _, _, .cons a v l vs ha hl => by unfold AV.scrubL; exact .cons _ v _ vs (Rep.scrub h ha) (RepL.scrub h hl)
end

mutual
theorem AV.scrub_nil : ∀ a, AV.scrub [] [] a = a
  | .dv d => rfl
  | .sl n kd rows r => by unfold AV.scrub; cases r <;> rfl
  | .agg cs => by unfold AV.scrub; rw [AV.scrubL_nil cs]
  | .tup cs => by unfold AV.scrub; rw [AV.scrubL_nil cs]
  | .pl k off => rfl
  | .pv kd row off => rfl
  | .fn f cs => by unfold AV.scrub; rw [AV.scrubL_nil cs]
  | .ifc t a => by unfold AV.scrub; rw [AV.scrub_nil a]
  | .ms .. => rfl
  | .pa .. => rfl
  | .arr .. => rfl
  | .junk => rfl
theorem AV.scrubL_nil : ∀ l, AV.scrubL [] [] l = l
  | [] => rfl
  | a :: l => by unfold AV.scrubL; rw [AV.scrub_nil a, AV.scrubL_nil l]
end
theorem Rep.mono {x x' : X} (h : Ext x x' [] []) {a v} (r : Rep x a v) : Rep x' a v := by
  have := r.scrub h; rwa [AV.scrub_nil] at this
theorem RepL.mono {x x' : X} (h : Ext x x' [] []) {a v} (r : RepL x a v) : RepL x' a v := by
  have := r.scrub h; rwa [AV.scrubL_nil] at this

theorem Ext.trans {x x' x'' : X} {p ks} (h : Ext x x' p ks) (h' : Ext x' x'' [] []) : Ext x x'' p ks :=
  ⟨h.M.trans h'.M, fun k b hk e => h'.loc k b rfl (h.loc k b hk e), fun k z hk e => h'.tk k z rfl (h.tk k z hk e), fun k hk => (h'.cap k rfl).trans (h.cap k hk), h'.M0.trans h.M0⟩

/-! lists -/
theorem RepL.length {x : X} : ∀ {l vs}, RepL x l vs → l.length = vs.length
  | _, _, .nil => rfl
  | _, _, .cons a v l vs _ hl => by simp [RepL.length hl]
theorem RepL.get {x : X} : ∀ {l : List AV} {vs : List Value}, RepL x l vs → ∀ {i : Nat} {a : AV}, l[i]? = some a → ∃ v, vs[i]? = some v ∧ Rep x a v
  | _, _, .nil, i, a, h => by simp at h
  | _, _, .cons a v l vs ha hl, 0, b, h => by simp at h; subst h; exact ⟨v, rfl, ha⟩
  | _, _, .cons a v l vs ha hl, i + 1, b, h => by simp at h; simpa using RepL.get hl h
theorem RepL.set {x : X} : ∀ {l vs}, RepL x l vs → ∀ (i : Nat) {a v}, Rep x a v → RepL x (l.set i a) (vs.set i v)
  | _, _, .nil, i, a, v, h => by simpa using RepL.nil
  | _, _, .cons a v l vs ha hl, 0, b, u, h => by simpa using RepL.cons _ _ _ _ h hl
  | _, _, .cons a v l vs ha hl, i + 1, b, u, h => by simpa using RepL.cons _ _ _ _ ha (RepL.set hl i h)
theorem RepL.append {x : X} : ∀ {l vs}, RepL x l vs → ∀ {l' vs'}, RepL x l' vs' → RepL x (l ++ l') (vs ++ vs')
  | _, _, .nil, _, _, h => h
  | _, _, .cons a v l vs ha hl, _, _, h => .cons _ _ _ _ ha (RepL.append hl h)
theorem RepL.take {x : X} : ∀ {l vs}, RepL x l vs → ∀ n, RepL x (l.take n) (vs.take n)
  | _, _, .nil, n => by simpa using RepL.nil
  | _, _, .cons a v l vs ha hl, 0 => by simpa using RepL.nil
  | _, _, .cons a v l vs ha hl, n + 1 => by simpa using RepL.cons _ _ _ _ ha (RepL.take hl n)
theorem RepL.drop {x : X} : ∀ {l vs}, RepL x l vs → ∀ n, RepL x (l.drop n) (vs.drop n)
  | _, _, .nil, n => by simpa using RepL.nil
  | _, _, .cons a v l vs ha hl, 0 => by simpa using RepL.cons _ _ _ _ ha hl
  | _, _, .cons a v l vs ha hl, n + 1 => by simpa using RepL.drop hl n
theorem RepL.junks (x : X) : ∀ n v, RepL x (List.replicate n .junk) (List.replicate n v)
  | 0, _ => .nil
  | n + 1, v => .cons _ _ _ _ (.junk v) (RepL.junks x n v)

/-! memory of slots -/
theorem beq_eq {a b : Nat} : Nat.beq a b = true ↔ a = b := by simp [Nat.beq_eq]
theorem lookup_write (m : Mem) (k : Nat) (cs : List AV) (j : Nat) : lookup (write m k cs) j = if j = k then some cs else lookup m j := by
  induction m with
  | nil => simp only [write, lookup, beq_eq]; by_cases h : k = j <;> simp [h, eq_comm]
  | cons e m ih =>
    obtain ⟨i, ds⟩ := e
    simp only [write, beq_eq]
    by_cases hi : i = k
    · subst hi
      simp only [if_true, lookup, beq_eq]
      by_cases h : i = j <;> simp [h, eq_comm]
      intro hh; exact absurd hh.symm h
    · simp only [hi, if_false, lookup, beq_eq, ih]
      by_cases h : i = j
      · subst h; simp [hi]
      · simp [h]
theorem lookup_drop (m : Mem) (k j : Nat) : lookup (drop m k) j = if j = k then none else lookup m j := by
  induction m with
  | nil => simp [drop, lookup]
  | cons e m ih =>
    obtain ⟨i, ds⟩ := e
    simp only [drop, beq_eq]
    by_cases hi : i = k
    · subst hi
      simp only [if_true, ih, lookup, beq_eq]
      by_cases h : j = i
      · simp [h]
      · simp [h, eq_comm]
    · simp only [hi, if_false, lookup, beq_eq, ih]
      by_cases h : i = j
      · subst h; simp [hi]
      · simp [h]
theorem mem_iff {k : Nat} {l : List Nat} : mem k l = true ↔ k ∈ l := by
  induction l with
  | nil => simp [mem]
  | cons a l ih => simp only [mem, Bool.or_eq_true, beq_eq, ih, List.mem_cons]; constructor <;> (rintro (h | h) <;> simp [h])
theorem lookup_dropAll (p : List Nat) : ∀ (m : Mem) (j : Nat), lookup (dropAll m p) j = if mem j p then none else lookup m j := by
  induction p with
  | nil => intro m j; simp [dropAll, mem]
  | cons k p ih =>
    intro m j
    simp only [dropAll, ih, lookup_drop, mem]
    by_cases h1 : mem j p = true
    · simp [h1]
    · by_cases h2 : j = k
      · subst h2; simp
      · have : Nat.beq k j = false := by
          cases hb : Nat.beq k j with
          | false => rfl
          | true => exact absurd (beq_eq.1 hb).symm h2
        simp [h1, h2, this]
theorem lookup_scrubM (p ks : List Nat) (m : Mem) (j : Nat) : lookup (scrubM p ks m) j = (lookup m j).map (AV.scrubL p ks) := by
  induction m with
  | nil => rfl
  | cons e m ih =>
    obtain ⟨i, ds⟩ := e
    simp only [scrubM, lookup, beq_eq, ih]
    by_cases h : i = j <;> simp [h]

mutual
theorem Kd.same_eq : ∀ {k l : Kd}, Kd.same k l = true → k = l
  | .b, l, h => by cases l <;> simp [Kd.same] at h; rfl
  | .i k, l, h => by cases l <;> simp [Kd.same] at h; rw [h]
  | .s, l, h => by cases l <;> simp [Kd.same] at h; rfl
  | .sl a, l, h => by
    cases l with
    | sl c => simp only [Kd.same] at h; rw [Kd.sameL_eq h]
    | _ => simp [Kd.same] at h
  | .o, l, h => by cases l <;> simp [Kd.same] at h; rfl
theorem Kd.sameL_eq : ∀ {a c : List Kd}, Kd.sameL a c = true → a = c
  | [], c, h => by cases c <;> simp [Kd.sameL] at h; rfl
  | x :: a, c, h => by
    cases c with
    | nil => simp [Kd.sameL] at h
    | cons y c => simp only [Kd.sameL, Bool.and_eq_true] at h; rw [Kd.same_eq h.1, Kd.sameL_eq h.2]
end

theorem Row.ofKds_length : ∀ {ks : List Kd} {r : Row}, Row.ofKds ks r = true → r.length = ks.length
  | [], [], _ => rfl
  | k :: ks, d :: r, h => by simp only [Row.ofKds, Bool.and_eq_true] at h; simp [Row.ofKds_length h.2]
  | [], _ :: _, h => by simp [Row.ofKds] at h
  | _ :: _, [], h => by simp [Row.ofKds] at h
theorem Row.ofKds_get : ∀ {ks : List Kd} {r : Row}, Row.ofKds ks r = true → ∀ {j : Nat} {k : Kd}, ks[j]? = some k → ∃ d, r[j]? = some d ∧ DV.ofKd k d = true
  | [], [], _, j, k, h => by simp at h
  | k :: ks, d :: r, h, 0, _, hk => by simp at hk; subst hk; simp only [Row.ofKds, Bool.and_eq_true] at h; exact ⟨d, rfl, h.1⟩
  | k :: ks, d :: r, h, j + 1, _, hk => by simp at hk; simp only [Row.ofKds, Bool.and_eq_true] at h; simpa using Row.ofKds_get h.2 hk
  | [], _ :: _, h, _, _, _ => by simp [Row.ofKds] at h
  | _ :: _, [], h, _, _, _ => by simp [Row.ofKds] at h
theorem CellsAt.get {M : Mm} : ∀ {b o : Nat} {r : Row}, CellsAt M b o r → ∀ {j : Nat} {d : DV}, r[j]? = some d → ∃ v, M b (o + j) = some v ∧ RepD M d v
  | _, _, _, .nil b o, j, d, h => by simp at h
  | _, _, _, .cons b o d v r h1 h2 h3, 0, _, h => by simp at h; subst h; exact ⟨v, h1, h2⟩
  | _, _, _, .cons b o d v r h1 h2 h3, j + 1, _, h => by
    simp at h
    obtain ⟨u, hu, hr⟩ := CellsAt.get h3 h
    exact ⟨u, by rw [← hu]; congr 1; omega, hr⟩
/-- A cell of a row, laid open. -/
theorem Rep.cell {x : X} {ks : List Kd} {r : Row} {b o j : Nat} {k : Kd} (h : Row.ofKds ks r = true) (hc : CellsAt x.M b o r) (hk : ks[j]? = some k) :
    ∃ v, x.M b (o + j) = some v ∧ Rep x (Row.cell k r j) v := by
  obtain ⟨d, hd, ht⟩ := Row.ofKds_get h hk
  obtain ⟨v, hv, hr⟩ := CellsAt.get hc hd
  refine ⟨v, hv, ?_⟩
  have hat : Row.at r j = d := by simp [Row.at, List.getD, hd]
  cases k with
  | b => cases d with
    | val u => cases u <;> simp [DV.ofKd] at ht; simp only [Row.cell, Row.B, hat, DV.toB]; exact .dv _ _ hr
    | sl => simp [DV.ofKd] at ht
  | i k => cases d with
    | val u => cases u <;> simp [DV.ofKd] at ht; subst ht; simp only [Row.cell, Row.I, hat, DV.toI]; exact .dv _ _ hr
    | sl => simp [DV.ofKd] at ht
  | s => cases d with
    | val u => cases u <;> simp [DV.ofKd] at ht; simp only [Row.cell, Row.S, hat, DV.toS]; exact .dv _ _ hr
    | sl => simp [DV.ofKd] at ht
  | sl ks => cases d with
    | val u => simp [DV.ofKd] at ht
    | sl n ls rows => simp only [DV.ofKd] at ht; obtain rfl := Kd.sameL_eq ht; simp only [Row.cell, Row.N, Row.R, hat, DV.toNl, DV.toRows]; exact .sl _ _ _ _ _ hr trivial
  | o => cases d with
    | val u => simp only [Row.cell, Row.V, hat, DV.toV]; exact .dv _ _ hr
    | sl => simp [DV.ofKd] at ht
/-- The cells of a row from j on. -/
theorem RepL.cells {x : X} {ks : List Kd} {r : Row} {b o : Nat} (h : Row.ofKds ks r = true) (hc : CellsAt x.M b o r) : ∀ (l : List Kd) (j : Nat), (∀ i, i < l.length → ks[j + i]? = l[i]?) →
    ∃ vs, vs.length = l.length ∧ RepL x (Row.cells r l j) vs ∧ ∀ i v, vs[i]? = some v → x.M b (o + j + i) = some v
  | [], j, _ => ⟨[], rfl, .nil, by simp⟩
  | k :: l, j, hl => by
    obtain ⟨v, hv, hr⟩ := Rep.cell h hc (j := j) (k := k) (by simpa using hl 0 (by simp))
    obtain ⟨vs, h1, h2, h3⟩ := RepL.cells h hc l (j + 1) (fun i hi => by have := hl (i + 1) (by simpa using hi); simp only [List.getElem?_cons_succ] at this; rw [← this]; congr 1; omega)
    refine ⟨v :: vs, by simp [h1], .cons _ _ _ _ hr h2, ?_⟩
    intro i u hu
    cases i with
    | zero => simp at hu; subst hu; simpa using hv
    | succ i => simp at hu; rw [← h3 i u hu]; congr 1; omega

/-! rows copied -/
theorem CellsAt.copy {M M' : Mm} (hs : Sub M M') : ∀ {b o : Nat} {r : Row}, CellsAt M b o r → ∀ {b' o' : Nat}, (∀ j v, j < r.length → M b (o + j) = some v → M' b' (o' + j) = some v) → CellsAt M' b' o' r
  | _, _, _, .nil b o, b', o', _ => .nil b' o'
  | _, _, _, .cons b o d v r h1 h2 h3, b', o', h => .cons b' o' d v r (by simpa using h 0 v (by simp) (by simpa using h1)) (h2.mono hs)
      (CellsAt.copy hs h3 fun j u hj hu => by have := h (j + 1) u (by simpa using hj) (by rw [← hu]; congr 1; omega); rw [← this]; congr 1; omega)
theorem RowsAt.copy {M M' : Mm} (hs : Sub M M') : ∀ {b o : Nat} {ks : List Kd} {rows : Rows}, RowsAt M b o ks rows → ∀ {b' o' : Nat}, (∀ j v, j < rows.length * ks.length → M b (o + j) = some v → M' b' (o' + j) = some v) → RowsAt M' b' o' ks rows
  | _, _, _, _, .nil b o ks, b', o', _ => .nil b' o' ks
  | _, _, _, _, .cons b o ks row rows h1 h2 h3, b', o', h => by
    have hl := Row.ofKds_length h1
    refine .cons b' o' ks row rows h1 (CellsAt.copy hs h2 fun j v hj hv => h j v ?_ hv) (RowsAt.copy hs h3 fun j v hj hv => ?_)
    · rw [hl] at hj; simp only [List.length_cons, Nat.add_mul, Nat.one_mul]; omega
    · have := h (ks.length + j) v (by simp only [List.length_cons, Nat.add_mul, Nat.one_mul]; omega) (by rw [← hv]; congr 1; omega)
      rw [← this]; congr 1; omega
theorem RowsAt.append {M : Mm} : ∀ {b o : Nat} {ks : List Kd} {rows : Rows}, RowsAt M b o ks rows → ∀ {rows' : Rows}, RowsAt M b (o + rows.length * ks.length) ks rows' → RowsAt M b o ks (rows ++ rows')
  | _, _, _, _, .nil b o ks, rows', h => by simpa using h
  | _, _, _, _, .cons b o ks row rows h1 h2 h3, rows', h => .cons b o ks row _ h1 h2 (RowsAt.append h3 (by
      have e : o + ks.length + rows.length * ks.length = o + (row :: rows).length * ks.length := by simp only [List.length_cons, Nat.add_mul, Nat.one_mul]; omega
      rw [e]; exact h))
theorem RepD.one {M : Mm} : ∀ {d : DV} {v : Value}, RepD M d v → v.oneCell' = true
  | _, _, .val v h => h
  | _, _, .nil ks => rfl
  | _, _, .sl ks rows a c _ _ _ => rfl
theorem CellsAt.values {M : Mm} : ∀ {b o : Nat} {row : Row}, CellsAt M b o row → ∃ us : List Value, us.length = row.length ∧ ∀ j v, us[j]? = some v → M b (o + j) = some v ∧ v.oneCell' = true
  | _, _, _, .nil b o => ⟨[], rfl, by simp⟩
  | _, _, _, .cons b o d v r h1 h2 h3 => by
    obtain ⟨us, hl, hu⟩ := CellsAt.values h3
    refine ⟨v :: us, by simp [hl], ?_⟩
    intro j u hj
    cases j with
    | zero => simp at hj; subst hj; exact ⟨by simpa using h1, RepD.one h2⟩
    | succ j => simp at hj; obtain ⟨h5, h6⟩ := hu j u hj; exact ⟨by rw [← h5]; congr 1; omega, h6⟩
/-- The cells of rows, as values. -/
theorem RowsAt.values {M : Mm} : ∀ {b o : Nat} {ks : List Kd} {rows : Rows}, RowsAt M b o ks rows → ∃ vs : List Value, vs.length = rows.length * ks.length ∧ (∀ j v, vs[j]? = some v → M b (o + j) = some v ∧ v.oneCell' = true)
  | _, _, _, _, .nil b o ks => ⟨[], by simp, by simp⟩
  | _, _, _, _, .cons b o ks row rows h1 h2 h3 => by
    obtain ⟨vs, hl, hv⟩ := RowsAt.values h3
    obtain ⟨us, hl2, hu⟩ : ∃ us : List Value, us.length = row.length ∧ ∀ j v, us[j]? = some v → M b (o + j) = some v ∧ v.oneCell' = true := CellsAt.values h2
    have hr := Row.ofKds_length h1
    refine ⟨us ++ vs, by simp [hl, hl2, hr, Nat.add_mul, Nat.add_comm], ?_⟩
    intro j v hj
    by_cases hlt : j < us.length
    · rw [List.getElem?_append_left hlt] at hj; exact hu j v hj
    · rw [List.getElem?_append_right (by omega)] at hj
      obtain ⟨h5, h6⟩ := hv _ v hj
      refine ⟨?_, h6⟩
      rw [← h5]; congr 1; omega
theorem RowsAt.get {M : Mm} : ∀ {b o : Nat} {ks : List Kd} {rows : Rows}, RowsAt M b o ks rows → ∀ {i : Nat}, i < rows.length → Row.ofKds ks (rows.getD i []) = true ∧ CellsAt M b (o + i * ks.length) (rows.getD i [])
  | _, _, _, _, .nil b o ks, i, h => by simp at h
  | _, _, _, _, .cons b o ks row rows h1 h2 h3, 0, h => by simpa using ⟨h1, h2⟩
  | _, _, _, _, .cons b o ks row rows h1 h2 h3, i + 1, h => by
    obtain ⟨h5, h6⟩ := RowsAt.get h3 (i := i) (by simpa using h)
    refine ⟨by simpa using h5, ?_⟩
    have e : o + (i + 1) * ks.length = o + ks.length + i * ks.length := by rw [Nat.add_mul, Nat.one_mul]; omega
    rw [e]; simpa using h6
theorem RowsAt.drop {M : Mm} : ∀ {b o : Nat} {ks : List Kd} {rows : Rows}, RowsAt M b o ks rows → ∀ n, n ≤ rows.length → RowsAt M b (o + n * ks.length) ks (rows.drop n)
  | _, _, _, _, .nil b o ks, n, h => by simpa using RowsAt.nil b _ ks
  | _, _, _, _, .cons b o ks row rows h1 h2 h3, 0, h => by simpa using RowsAt.cons b o ks row rows h1 h2 h3
  | _, _, _, _, .cons b o ks row rows h1 h2 h3, n + 1, h => by
    have := RowsAt.drop h3 n (by simpa using h)
    have e : o + (n + 1) * ks.length = o + ks.length + n * ks.length := by rw [Nat.add_mul, Nat.one_mul]; omega
    rw [e]; simpa using this
theorem RowsAt.take {M : Mm} : ∀ {b o : Nat} {ks : List Kd} {rows : Rows}, RowsAt M b o ks rows → ∀ n, RowsAt M b o ks (rows.take n)
  | _, _, _, _, .nil b o ks, n => by simpa using RowsAt.nil b _ ks
  | _, _, _, _, .cons b o ks row rows h1 h2 h3, 0 => by simpa using RowsAt.nil b o ks
  | _, _, _, _, .cons b o ks row rows h1 h2 h3, n + 1 => by simpa using RowsAt.cons b o ks row _ h1 h2 (RowsAt.take h3 n)

/-! cells as a list of values -/
inductive CellsV (M : Mm) : Row → List Value → Prop
  | nil : CellsV M [] []
  | cons (d : DV) (v : Value) (r : Row) (vs : List Value) : RepD M d v → CellsV M r vs → CellsV M (d :: r) (v :: vs)
theorem CellsV.append {M : Mm} : ∀ {r : Row} {vs : List Value}, CellsV M r vs → ∀ {r' : Row} {vs' : List Value}, CellsV M r' vs' → CellsV M (r ++ r') (vs ++ vs')
  | _, _, .nil, _, _, h => h
  | _, _, .cons d v r vs h1 h2, _, _, h => .cons d v _ _ h1 (h2.append h)
theorem CellsV.length {M : Mm} : ∀ {r : Row} {vs : List Value}, CellsV M r vs → r.length = vs.length
  | _, _, .nil => rfl
  | _, _, .cons d v r vs h1 h2 => by simp [h2.length]
theorem CellsV.mono {M M' : Mm} (h : Sub M M') : ∀ {r : Row} {vs : List Value}, CellsV M r vs → CellsV M' r vs
  | _, _, .nil => .nil
  | _, _, .cons d v r vs h1 h2 => .cons d v r vs (h1.mono h) (h2.mono h)
theorem CellsV.get {M : Mm} : ∀ {r : Row} {vs : List Value}, CellsV M r vs → ∀ {j : Nat} {d : DV}, r[j]? = some d → ∃ v, vs[j]? = some v ∧ RepD M d v
  | _, _, .nil, j, d, h => by simp at h
  | _, _, .cons d v r vs h1 h2, 0, d', h => by simp at h; subst h; exact ⟨v, rfl, h1⟩
  | _, _, .cons d v r vs h1 h2, j + 1, d', h => by simpa using h2.get (j := j) (by simpa using h)
theorem CellsV.take {M : Mm} : ∀ {r : Row} {vs : List Value}, CellsV M r vs → ∀ n, CellsV M (r.take n) (vs.take n)
  | _, _, .nil, n => by simpa using CellsV.nil
  | _, _, .cons d v r vs h1 h2, 0 => by simpa using CellsV.nil
  | _, _, .cons d v r vs h1 h2, n + 1 => by simpa using CellsV.cons d v _ _ h1 (h2.take n)
theorem CellsV.drop {M : Mm} : ∀ {r : Row} {vs : List Value}, CellsV M r vs → ∀ n, CellsV M (r.drop n) (vs.drop n)
  | _, _, .nil, n => by simpa using CellsV.nil
  | _, _, .cons d v r vs h1 h2, 0 => .cons d v r vs h1 h2
  | _, _, .cons d v r vs h1 h2, n + 1 => by simpa using h2.drop n
/-- Rows one behind the other. -/
inductive ArrV (M : Mm) (ks : List Kd) : Rows → List Value → Prop
  | nil (l : List Value) : ArrV M ks [] l
  | cons (row : Row) (vs : List Value) (rows : Rows) (l : List Value) : Row.ofKds ks row = true → CellsV M row vs → ArrV M ks rows l → ArrV M ks (row :: rows) (vs ++ l)
theorem ArrV.mono {M M' : Mm} (h : Sub M M') {ks : List Kd} : ∀ {rows : Rows} {l : List Value}, ArrV M ks rows l → ArrV M' ks rows l
  | _, _, .nil l => .nil l
  | _, _, .cons row vs rows l h1 h2 h3 => .cons row vs rows l h1 (h2.mono h) (h3.mono h)
theorem ArrV.length {M : Mm} {ks : List Kd} : ∀ {rows : Rows} {l : List Value}, ArrV M ks rows l → rows.length * ks.length ≤ l.length
  | _, _, .nil l => by simp
  | _, _, .cons row vs rows l h1 h2 h3 => by
    have := h2.length
    have := Row.ofKds_length h1
    have := h3.length
    simp only [List.length_append, List.length_cons, Nat.add_mul]; omega
/-- Row i. -/
theorem ArrV.split {M : Mm} {ks : List Kd} : ∀ {rows : Rows} {l : List Value}, ArrV M ks rows l → ∀ {i : Nat}, i < rows.length →
    ∃ l1 vs l2, l = l1 ++ vs ++ l2 ∧ l1.length = i * ks.length ∧ Row.ofKds ks (rows.getD i []) = true ∧ CellsV M (rows.getD i []) vs ∧
      ∀ row' vs', Row.ofKds ks row' = true → CellsV M row' vs' → ArrV M ks (rows.set i row') (l1 ++ vs' ++ l2)
  | _, _, .nil _, i, h => by simp at h
  | _, _, .cons row vs rows l h1 h2 h3, 0, h => ⟨[], vs, l, by simp, by simp, by simpa using h1, by simpa using h2, fun row' vs' g1 g2 => by simpa using ArrV.cons row' vs' rows l g1 g2 h3⟩
  | _, _, .cons row vs rows l h1 h2 h3, i + 1, h => by
    obtain ⟨l1, us, l2, g1, g2, g3, g4, g5⟩ := h3.split (i := i) (by simpa using h)
    refine ⟨vs ++ l1, us, l2, by rw [g1]; simp, ?_, by simpa using g3, by simpa using g4, fun row' vs' k1 k2 => ?_⟩
    · have := h2.length
      have := Row.ofKds_length h1
      rw [List.length_append, g2, Nat.add_mul]; omega
    · have := ArrV.cons row vs _ _ h1 h2 (g5 row' vs' k1 k2)
      simpa using this
def cellD (k : Kd) (d : DV) : AV := Row.cell k [d] 0
theorem cell_eq (k : Kd) (r : Row) (j : Nat) : Row.cell k r j = cellD k (Row.at r j) := by cases k <;> rfl
theorem rep_cellD {M : Mm} {loc : Nat → Option Nat} {tk : Nat → Option (Value × Nat)} {cap : Nat → Nat} {M0 : Mm} {k : Kd} {d : DV} {v : Value} (h : DV.ofKd k d = true) (hr : RepD M d v) : Rep ⟨M, loc, tk, cap, M0⟩ (cellD k d) v := by
  cases k with
  | b => cases d with
    | val u => cases u <;> simp [DV.ofKd] at h; exact .dv _ v hr
    | sl => simp [DV.ofKd] at h
  | i k => cases d with
    | val u => cases u <;> simp [DV.ofKd] at h; subst h; exact .dv _ v hr
    | sl => simp [DV.ofKd] at h
  | s => cases d with
    | val u => cases u <;> simp [DV.ofKd] at h; exact .dv _ v hr
    | sl => simp [DV.ofKd] at h
  | sl ks => cases d with
    | val u => simp [DV.ofKd] at h
    | sl nl ls rows =>
      simp only [DV.ofKd] at h
      have := Kd.sameL_eq h
      subst this
      exact .sl nl ks rows .no v hr trivial
  | o => cases d with
    | val u => exact .dv _ v hr
    | sl => simp [DV.ofKd] at h
theorem rep_at {x : X} {ks : List Kd} {r : Row} {vs : List Value} {j : Nat} {k : Kd} (hc : CellsV x.M r vs) (h : Row.ofKds ks r = true) (hk : ks[j]? = some k) : ∃ v, vs[j]? = some v ∧ Rep x (Row.cell k r j) v := by
  obtain ⟨d, hd, ho⟩ := Row.ofKds_get h hk
  obtain ⟨v, hv, hr⟩ := hc.get hd
  refine ⟨v, hv, ?_⟩
  rw [cell_eq, show Row.at r j = d by simp [Row.at, hd]]
  exact rep_cellD (loc := x.loc) (tk := x.tk) (cap := x.cap) (M0 := x.M0) ho hr
theorem rep_cells_from {x : X} {ks : List Kd} {r : Row} {vs : List Value} (hc : CellsV x.M r vs) (h : Row.ofKds ks r = true) : ∀ (l : List Kd) (q : Nat), (∀ i, i < l.length → ks[q + i]? = l[i]?) → RepL x (Row.cells r l q) ((vs.drop q).take l.length)
  | [], q, _ => by simpa [Row.cells] using RepL.nil
  | k :: l, q, hl => by
    obtain ⟨v, hv, hr⟩ := rep_at hc h (j := q) (k := k) (by simpa using hl 0 (by simp))
    have := rep_cells_from hc h l (q + 1) fun i hi => by have := hl (i + 1) (by simp; omega); simp only [List.getElem?_cons_succ] at this; rw [← this]; congr 1; omega
    have e1 : (vs.drop q).take (l.length + 1) = v :: (vs.drop (q + 1)).take l.length := by
      have hlt := (List.getElem?_eq_some_iff.1 hv).1
      have hve := (List.getElem?_eq_some_iff.1 hv).2
      rw [List.drop_eq_getElem_cons hlt, List.take_succ_cons, hve]
    simp only [Row.cells, List.length_cons, e1]
    exact .cons _ _ _ _ hr this

/-- A slot's block: cells, or one array. -/
def Cont (x : X) (cs : List AV) (l : List Value) : Prop := RepL x cs l ∨ ∃ ks rows, cs = [.arr ks rows] ∧ ArrV x.M ks rows l
theorem Cont.scrub {x x' : X} {p ks : List Nat} (h : Ext x x' p ks) {cs : List AV} {l : List Value} (hc : Cont x cs l) : Cont x' (AV.scrubL p ks cs) l := by
  rcases hc with hc | ⟨kd, rows, rfl, hc⟩
  · exact .inl (hc.scrub h)
  · exact .inr ⟨kd, rows, by simp [AV.scrubL, AV.scrub], hc.mono h.M⟩
theorem Cont.mono {x x' : X} (h : Ext x x' [] []) {cs : List AV} {l : List Value} (hc : Cont x cs l) : Cont x' cs l := by
  have := hc.scrub h
  rwa [AV.scrubL_nil] at this
theorem Cont.plain {x : X} {cs : List AV} {l : List Value} (hc : Cont x cs l) (h : Den.plain cs = true) : RepL x cs l := by
  rcases hc with hc | ⟨kd, rows, rfl, hc⟩
  · exact hc
  · simp [Den.plain] at h
theorem Cont.arr {x : X} {ks : List Kd} {rows : Rows} {l : List Value} (hc : Cont x [.arr ks rows] l) : ArrV x.M ks rows l := by
  rcases hc with hc | ⟨kd, rows', he, hc⟩
  · cases hc with | cons _ _ _ _ h1 _ => cases h1
  · cases he; exact hc
theorem lookupC_eq {m : Mem} {k : Nat} {cs : List AV} (h : lookupC m k = some cs) : lookup m k = some cs ∧ plain cs = true := by
  unfold lookupC at h
  split at h
  · rename_i cs' hk
    split at h
    · rename_i hp; cases h; exact ⟨hk, hp⟩
    · cases h
  · cases h
theorem lookupA_eq {m : Mem} {k : Nat} {ks : List Kd} {rows : Rows} (h : lookupA m k = some (ks, rows)) : lookup m k = some [.arr ks rows] := by
  unfold lookupA at h
  split at h
  · rename_i ks' rows' hk; cases h; exact hk
  · cases h
end Go.Den
