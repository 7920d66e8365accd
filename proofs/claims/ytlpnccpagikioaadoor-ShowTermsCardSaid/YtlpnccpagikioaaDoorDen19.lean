import Derived.Test.YtlpnccpagikioaaDoorDen18
import Derived.OpenShut
import Derived.ShutString
import Derived.ChangeOld
import Derived.SizedLaws
import Derived.Carry
set_option linter.unusedVariables false
set_option linter.unusedSimpArgs false
set_option linter.unusedSectionVars false
/- What the arguments of a law stand for. -/
namespace Go.Den
open Go.ChangeShapes Go.WideShapes Go.RowKit

def structT (P : Program) (g : TypeId → Option (List Kd)) : Nat → List Field → Option (List Kd)
  | _, [] => some []
  | off, f :: fs => match g f.type with
    | some ks => if Nat.beq f.offset off && Nat.beq (P.cellsOf f.type) ks.length then (match structT P g (off + ks.length) fs with | some l => some (ks ++ l) | none => none) else none
    | none => none
/-- A cell's bytes and its alignment, at least; how many bytes cells take, laid one behind the other. -/
def Kd.wide : Kd → Nat × Nat
  | .b => (1, 1)
  | .i k => (k.bits / 8, k.bits / 8)
  | .s => (16, 8)
  | .sl _ => (24, 8)
  | .o => (8, 8)
def laidTo : List Kd → Nat → Nat → Nat
  | [], off, al => (off + al - 1) / al * al
  | k :: ks, off, al => laidTo ks ((off + k.wide.2 - 1) / k.wide.2 * k.wide.2 + k.wide.1) (max al k.wide.2)
def kbytes (ks : List Kd) : Nat := laidTo ks 0 1
/-- The kinds of plain data. -/
def kdsT (P : Program) : Nat → TypeId → Option (List Kd)
  | 0, _ => none
  | n + 1, t => match P.underlying t with
    | some .bool => some [.b]
    | some (.int k) => some [.i k]
    | some .string => some [.s]
    | some (.slice e) => match kdsT P n e with
      | some ks => if Nat.beq (P.cellsOf e) ks.length && Nat.blt 0 ks.length && Nat.blt 0 (P.bytesOf e) && Nat.ble (kbytes ks) (P.bytesOf e) then some [.sl ks] else none
      | none => none
    | some (.struct fs) => match structT P (kdsT P n) 0 fs.toList with
      | some ks => if Nat.beq (P.cellsOf t) ks.length then some ks else none
      | none => none
    | some (.array l e) => match kdsT P n e with
      | some ks => if Nat.beq (P.cellsOf e) ks.length && Nat.beq (P.cellsOf t) (l * ks.length) then some (List.flatten (List.replicate l ks)) else none
      | none => none
    | _ => none

mutual
/-- Numbers are of their kinds; nothing is longer than a machine's memory. -/
def DV.Fine : DV → Prop
  | .val (.int k n) => (Lit.int k n).wf = true
  | .val (.string s) => s.size ≤ reachBytes
  | .val _ => True
  | .sl nl ks rows => rows.length ≤ reachBytes ∧ (nl = true → rows = []) ∧ RowsFine ks rows ∧ rows.length * kbytes ks ≤ reachBytes
def RowFine : List DV → Prop
  | [] => True
  | d :: r => d.Fine ∧ RowFine r
def RowsFine (ks : List Kd) : List (List DV) → Prop
  | [] => True
  | r :: l => Row.ofKds ks r = true ∧ RowFine r ∧ RowsFine ks l
end
theorem RowFine.append : ∀ {r : Row}, RowFine r → ∀ {r' : Row}, RowFine r' → RowFine (r ++ r')
  | [], _, _, h => h
  | d :: r, h, _, h' => by
    unfold RowFine at h ⊢
    exact ⟨h.1, h.2.append h'⟩
mutual
theorem sameK : ∀ (k : Kd), Kd.same k k = true
  | .b => rfl
  | .i k => by simp [Kd.same]
  | .s => rfl
  | .sl a => by unfold Kd.same; exact sameKL a
  | .o => rfl
theorem sameKL : ∀ (l : List Kd), Kd.sameL l l = true
  | [] => rfl
  | k :: l => by unfold Kd.sameL; rw [sameK k, sameKL l]; rfl
end

section
variable {H : Type} {enc : TypeId × Value → H} {P : Program} {w : World} {spare : Nat → Bool} {held : Bool}
def cellsM (w : World) : Mm := fun b o => w.cell? ⟨b, o, none⟩
/-- What a reading tells. -/
def Opens (w : World) (ks : List Kd) (cs : List Value) : Prop := ∃ row : Row, Row.ofKds ks row = true ∧ CellsV (cellsM w) row cs ∧ RowFine row

theorem open_fields {m : Nat} {cs : List Value} {g : TypeId → Option (List Kd)}
    (ih : ∀ t ks cs x, g t = some ks → DataW.trod enc P w 0 spare held m t cs = some x → (∀ q ∈ x.1.weights P t, q ≤ reachBytes) → Opens w ks cs) :
    ∀ (fl : List Field) (xl : List (DataW H × List MemPlace)) (off : Nat) (ks : List Kd), structT P g off fl = some ks → xl.length = fl.length →
      (∀ (i : Nat) (f : Field), fl[i]? = some f → DataW.trod enc P w 0 spare held m f.type ((cs.drop f.offset).take (P.cellsOf f.type)) = xl[i]?) →
      (∀ q ∈ DataW.weightsEach P (fl.map (·.type)) (xl.map (·.1)), q ≤ reachBytes) → Opens w ks ((cs.drop off).take ks.length)
  | [], xl, off, ks, hg, _, _, _ => by
    simp only [structT] at hg
    cases hg
    exact ⟨[], rfl, by simpa using CellsV.nil, trivial⟩
  | f :: fl, [], off, ks, hg, hlen, _, _ => by simp at hlen
  | f :: fl, x :: xl, off, ks, hg, hlen, hx, hw => by
    simp only [structT] at hg
    split at hg
    · rename_i k0 hk0
      split at hg
      · rename_i hc
        split at hg
        · rename_i l hl
          cases hg
          simp only [Bool.and_eq_true, beq_eq] at hc
          have h0 := hx 0 f rfl
          rw [hc.1, hc.2] at h0
          simp only [List.getElem?_cons_zero] at h0
          simp only [List.map_cons, DataW.weightsEach, List.mem_append] at hw
          obtain ⟨r0, a1, a2, a3⟩ := ih f.type k0 _ x hk0 h0 (fun q hq => hw q (.inl hq))
          obtain ⟨r1, b1, b2, b3⟩ := open_fields ih fl xl (off + k0.length) l hl (by simpa using hlen) (fun i f' hf => by have := hx (i + 1) f' (by simpa using hf); simpa using this) (fun q hq => hw q (.inr hq))
          refine ⟨r0 ++ r1, ofKds_append a1 b1, ?_, a3.append b3⟩
          rw [List.length_append, List.take_add, List.drop_drop]
          exact a2.append b2
        · cases hg
      · cases hg
    · cases hg

theorem weights_all_mem {e : TypeId} : ∀ {l : List (DataW H)} {d : DataW H}, d ∈ l → ∀ q ∈ d.weights P e, q ∈ DataW.weightsAll P e l
  | c :: l, d, h, q, hq => by
    simp only [DataW.weightsAll, List.mem_append]
    rcases List.mem_cons.1 h with h | h
    · subst h; exact .inl hq
    · exact .inr (weights_all_mem h q hq)

theorem open_array {m : Nat} {cs : List Value} {e : TypeId} {k0 : List Kd}
    (ih : ∀ cs x, DataW.trod enc P w 0 spare held m e cs = some x → (∀ q ∈ x.1.weights P e, q ≤ reachBytes) → Opens w k0 cs) :
    ∀ (l : Nat) (xl : List (DataW H × List MemPlace)) (off : Nat), xl.length = l →
      (∀ i, i < l → DataW.trod enc P w 0 spare held m e ((cs.drop (off + i * k0.length)).take k0.length) = xl[i]?) →
      (∀ x ∈ xl, ∀ q ∈ x.1.weights P e, q ≤ reachBytes) → Opens w (List.flatten (List.replicate l k0)) ((cs.drop off).take (l * k0.length))
  | 0, xl, off, _, _, _ => ⟨[], rfl, by simpa using CellsV.nil, trivial⟩
  | l + 1, [], off, hlen, _, _ => by simp at hlen
  | l + 1, x :: xl, off, hlen, hx, hw => by
    have h0 := hx 0 (by omega)
    simp only [Nat.zero_mul, Nat.add_zero, List.getElem?_cons_zero] at h0
    obtain ⟨r0, a1, a2, a3⟩ := ih _ x h0 (hw x (List.mem_cons_self ..))
    obtain ⟨r1, b1, b2, b3⟩ := open_array ih l xl (off + k0.length) (by simpa using hlen) (fun i hi => by
      have := hx (i + 1) (by omega)
      simp only [List.getElem?_cons_succ] at this
      rw [← this, Nat.add_mul]; congr 3; omega) (fun y hy => hw y (List.mem_cons_of_mem _ hy))
    refine ⟨r0 ++ r1, by rw [List.replicate_succ, List.flatten_cons]; exact ofKds_append a1 b1, ?_, a3.append b3⟩
    rw [Nat.add_mul, Nat.one_mul, Nat.add_comm, List.take_add, List.drop_drop]
    exact a2.append b2

theorem CellsV.at {w : World} {b : Nat} : ∀ {r : Row} {cs : List Value} {o : Nat}, CellsV (cellsM w) r cs → (∀ i, i < cs.length → w.cell? ⟨b, o + i, none⟩ = cs[i]?) → CellsAt (cellsM w) b o r
  | _, _, o, .nil, _ => .nil b o
  | _, _, o, .cons d v r vs h1 h2, h => by
    refine .cons b o d v r ?_ h1 (h2.at fun i hi => ?_)
    · have := h 0 (by simp); simpa [cellsM] using this
    · have := h (i + 1) (by simp; omega)
      simp only [List.getElem?_cons_succ] at this
      rw [← this]; congr 2; omega

theorem open_rows {m : Nat} {e : TypeId} {k0 : List Kd} {b : Nat} (hc : P.cellsOf e = k0.length)
    (ih : ∀ cs x, DataW.trod enc P w 0 spare held m e cs = some x → (∀ q ∈ x.1.weights P e, q ≤ reachBytes) → Opens w k0 cs) :
    ∀ (xl : List (DataW H × List MemPlace)) (o : Nat), (∀ i, i < xl.length → (w.cells? 0 ⟨b, o + i * k0.length, none⟩ k0.length).bind (DataW.trod enc P w 0 spare held m e) = xl[i]?) →
      (∀ x ∈ xl, ∀ q ∈ x.1.weights P e, q ≤ reachBytes) → ∃ rows : Rows, rows.length = xl.length ∧ RowsAt (cellsM w) b o k0 rows ∧ RowsFine k0 rows
  | [], o, _, _ => ⟨[], rfl, .nil b o k0, trivial⟩
  | x :: xl, o, hx, hw => by
    have h0 := hx 0 (by simp)
    simp only [Nat.zero_mul, Nat.add_zero, List.getElem?_cons_zero] at h0
    obtain ⟨cs, h1, h2⟩ := Option.bind_eq_some_iff.1 h0
    obtain ⟨_, hl, hcell⟩ := World.cells?_some h1
    obtain ⟨r0, a1, a2, a3⟩ := ih _ x h2 (hw x (List.mem_cons_self ..))
    obtain ⟨rows, b1, b2, b3⟩ := open_rows hc ih xl (o + k0.length) (fun i hi => by
      have := hx (i + 1) (by simp; omega)
      simp only [List.getElem?_cons_succ] at this
      rw [← this, Nat.add_mul]; congr 3; omega) (fun y hy => hw y (List.mem_cons_of_mem _ hy))
    refine ⟨r0 :: rows, by simp [b1], .cons b o k0 r0 rows a1 (a2.at fun i hi => ?_) b2, ?_⟩
    · rw [← hcell i (by omega)]
      unfold Addr.add
      by_cases h : i = 0
      · subst h; rfl
      · rw [if_neg h]
    · unfold RowsFine; exact ⟨a1, a3, b3⟩

theorem open_row : ∀ (n : Nat) (t : TypeId) (ks : List Kd) (fuel : Nat) (cs : List Value) (x : DataW H × List MemPlace), kdsT P n t = some ks → DataW.trod enc P w 0 spare held fuel t cs = some x →
    (∀ q ∈ x.1.weights P t, q ≤ reachBytes) → Opens w ks cs
  | 0, t, ks, fuel, cs, x, hk, _, _ => by simp [kdsT] at hk
  | n + 1, t, ks, fuel, cs, x, hk, h, hw => by
    simp only [kdsT] at hk
    split at hk
    · rename_i hu
      cases hk
      obtain ⟨b, rfl, rfl⟩ := DataW.trod_bool hu h
      exact ⟨[.val (.bool b)], rfl, .cons _ _ _ _ (.val _ rfl) .nil, trivial, trivial⟩
    · rename_i k hu
      cases hk
      obtain ⟨i, rfl, rfl, hf⟩ := DataW.trod_int hu h
      exact ⟨[.val (.int k i)], by simp [Row.ofKds, DV.ofKd], .cons _ _ _ _ (.val _ rfl) .nil, hf, trivial⟩
    · rename_i hu
      cases hk
      obtain ⟨s, rfl, rfl, hs⟩ := DataW.trod_string hu h
      refine ⟨[.val (.string s)], rfl, .cons _ _ _ _ (.val _ rfl) .nil, ?_, trivial⟩
      have := hw s.data.toList.length (by simp [DataW.weights])
      simpa [DV.Fine] using this
    · rename_i e hu
      split at hk
      · rename_i k0 hk0
        split at hk
        · rename_i hc
          cases hk
          simp only [Bool.and_eq_true, beq_eq, Nat.blt_eq, Nat.ble_eq] at hc
          obtain ⟨⟨⟨hc1, hc2⟩, hc3⟩, hc4⟩ := hc
          rcases DataW.trod_slice hu h with ⟨rfl, rfl⟩ | ⟨a, len, cap, elems, rest, m, rfl, rfl, rfl, _, hlc, hcm, hlen, hel, _, _⟩
          · exact ⟨[.sl true k0 []], by simp [Row.ofKds, DV.ofKd, sameKL], .cons _ _ _ _ (.nil k0) .nil, ⟨Nat.zero_le _, fun _ => rfl, trivial, by rw [List.length_nil, Nat.zero_mul]; exact Nat.zero_le _⟩, trivial⟩
          · simp only [DataW.weights, hu] at hw
            have hbig := hw _ (List.mem_cons_self ..)
            simp only [List.length_map] at hbig
            have hsz : elems.length ≤ reachBytes := by
              refine Nat.le_trans ?_ hbig
              exact Nat.le_trans (Nat.le_add_right _ rest.length) (Nat.le_mul_of_pos_right _ hc3)
            have hkb : elems.length * kbytes k0 ≤ reachBytes := Nat.le_trans (Nat.mul_le_mul (Nat.le_add_right _ rest.length) hc4) hbig
            have hw' : ∀ x ∈ elems, ∀ q ∈ x.1.weights P e, q ≤ reachBytes := fun x hx q hq => hw q (List.mem_cons_of_mem _ (List.mem_append_left _ (weights_all_mem (List.mem_map_of_mem hx) q hq)))
            have ih : ∀ cs x, DataW.trod enc P w 0 spare held m e cs = some x → (∀ q ∈ x.1.weights P e, q ≤ reachBytes) → Opens w k0 cs := fun cs x h1 h2 => open_row n e k0 m cs x hk0 h1 h2
            by_cases h0 : len = 0
            · subst h0
              have : elems = [] := List.eq_nil_of_length_eq_zero hlen
              subst this
              refine ⟨[.sl false k0 []], by simp [Row.ofKds, DV.ofKd, sameKL], .cons _ _ _ _ (.sl k0 [] a cap (by simp) (fun h => absurd rfl h) (.nil _ _ _)) .nil, ⟨Nat.zero_le _, fun _ => rfl, trivial, by rw [List.length_nil, Nat.zero_mul]; exact Nat.zero_le _⟩, trivial⟩
            · have hspot : a.spot = none := by
                have h1 := hel 0 (by omega)
                have hx0 : ∃ y, elems[0]? = some y := ⟨elems[0]'(by omega), by simp⟩
                obtain ⟨y, hy⟩ := hx0
                rw [hy] at h1
                obtain ⟨cs, h2, _⟩ := Option.bind_eq_some_iff.1 h1
                obtain ⟨_, hl2, hcell⟩ := World.cells?_some h2
                have := hcell 0 (by omega)
                rw [List.getElem?_eq_getElem (by omega)] at this
                simp only [Nat.zero_mul, Addr.add, if_true] at this
                unfold World.cell? at this
                split at this
                · split at this
                  · cases this
                  · rename_i hs; simpa using hs
                · cases this
              obtain ⟨ab, ao, asp⟩ := a
              simp only at hspot
              subst hspot
              obtain ⟨rows, b1, b2, b3⟩ := open_rows (b := ab) hc1 ih elems ao (fun i hi => by
                rw [← hel i (by omega), hc1]
                congr 2
                unfold Addr.add
                by_cases h : i * k0.length = 0
                · rw [if_pos h, h, Nat.add_zero]
                · rw [if_neg h]) hw'
              refine ⟨[.sl false k0 rows], by simp [Row.ofKds, DV.ofKd, sameKL], .cons _ _ _ _ ?_ .nil, ⟨by omega, by simp, b3, by rw [b1]; exact hkb⟩, trivial⟩
              rw [← hlen, ← b1]
              exact .sl k0 rows ⟨ab, ao, none⟩ cap (by omega) (fun _ => rfl) b2
        · cases hk
      · cases hk
    · rename_i fs hu
      split at hk
      · rename_i k0 hk0
        split at hk
        · rename_i hc
          cases hk
          simp only [beq_eq] at hc
          obtain ⟨xs, m, rfl, rfl, hl, hxs, hx⟩ := DataW.trod_struct hu h
          simp only [DataW.weights, hu] at hw
          have := open_fields (cs := cs) (m := m) (g := kdsT P n) (fun t ks cs x h0 h1 h2 => open_row n t ks m cs x h0 h1 h2) fs.toList xs 0 ks hk0 (by simpa using hxs) (fun i f hf => hx i f (by simpa using hf)) hw
          rw [← hc, ← hl] at this
          simpa using this
        · cases hk
      · cases hk
    · rename_i l e hu
      split at hk
      · rename_i k0 hk0
        split at hk
        · rename_i hc
          cases hk
          simp only [Bool.and_eq_true, beq_eq] at hc
          obtain ⟨xs, m, rfl, rfl, hl, hxs, hx⟩ := DataW.trod_array hu h
          simp only [DataW.weights, hu] at hw
          have := open_array (cs := cs) (m := m) (e := e) (k0 := k0) (fun cs x h1 h2 => open_row n e k0 m cs x hk0 h1 h2) l xs 0 hxs (fun i hi => by rw [Nat.zero_add, ← hc.1]; exact hx i hi)
            (fun x hx q hq => hw q (weights_all_mem (List.mem_map_of_mem hx) q hq))
          rw [← hc.2, ← hl] at this
          simpa using this
        · cases hk
      · cases hk
    · cases hk
end

/-! arguments as abstract values -/
theorem cells_shift (d : DV) (r : Row) : ∀ (ks : List Kd) (j : Nat), Row.cells (d :: r) ks (j + 1) = Row.cells r ks j
  | [], j => rfl
  | k :: ks, j => by
    simp only [Row.cells]
    rw [cells_shift d r ks (j + 1)]
    congr 1
theorem rep_cells {M : Mm} {loc : Nat → Option Nat} {tk : Nat → Option (Value × Nat)} {cap : Nat → Nat} {M0 : Mm} : ∀ {r : Row} {vs : List Value}, CellsV M r vs → ∀ {ks : List Kd}, Row.ofKds ks r = true → RepL ⟨M, loc, tk, cap, M0⟩ (Row.cells r ks 0) vs
  | _, _, .nil, [], _ => .nil
  | _, _, .nil, _ :: _, h => by simp [Row.ofKds] at h
  | _, _, .cons d v r vs h1 h2, [], h => by simp [Row.ofKds] at h
  | _, _, .cons d v r vs h1 h2, k :: ks, h => by
    simp only [Row.ofKds, Bool.and_eq_true] at h
    simp only [Row.cells]
    refine .cons _ _ _ _ ?_ ?_
    · exact rep_cellD (d := d) h.1 h1
    · rw [cells_shift]; exact rep_cells h2 h.2

/-- An argument. -/
def argA (P : Program) (t : TypeId) (ks : List Kd) (r : Row) : AV :=
  match agg? P t, ks with
  | some true, ks => .agg (Row.cells r ks 0)
  | _, k :: _ => Row.cell k r 0
  | _, [] => .junk
def argsA (P : Program) : List TypeId → List Row → List AV
  | t :: ts, r :: rs => match kdsT P 9 t with
    | some ks => argA P t ks r :: argsA P ts rs
    | none => []
  | _, _ => []
def Fits (P : Program) : List TypeId → List Row → Prop
  | t :: ts, r :: rs => (∃ ks, kdsT P 9 t = some ks ∧ Row.ofKds ks r = true ∧ RowFine r) ∧ Fits P ts rs
  | [], [] => True
  | _, _ => False

section
variable {H : Type} {enc : TypeId × Value → H} {P : Program} {w : World} {spare : Nat → Bool} {held : Bool}
theorem open_arg {t : TypeId} {ks : List Kd} {v : Value} {d : DataW H} {p : List MemPlace} {b0 : Nat} {loc : Nat → Option Nat} {tk : Nat → Option (Value × Nat)} {cap : Nat → Nat} {M0 : Mm} (hk : kdsT P 9 t = some ks) (hval : Value.okWide P w .any b0 t v) (h : DataW.Trod enc P w 0 spare held t v d p)
    (hw : ∀ q ∈ d.weights P t, q ≤ reachBytes) : ∃ row, Row.ofKds ks row = true ∧ RowFine row ∧ Rep ⟨cellsM w, loc, tk, cap, M0⟩ (argA P t ks row) v := by
  obtain ⟨fuel, hf⟩ := h
  obtain ⟨row, h1, h2, h3⟩ := open_row 9 t ks fuel _ _ hk hf hw
  refine ⟨row, h1, h3, ?_⟩
  have one : ∀ k, ks = [k] → agg? P t = some false → v.cells = #[v] → Rep ⟨cellsM w, loc, tk, cap, M0⟩ (argA P t ks row) v := by
    intro k hks hag hv
    subst hks
    rw [hv] at h2
    unfold argA
    rw [hag]
    cases h2 with
    | cons d' _ r vs g1 g2 =>
      simp only [Row.ofKds, Bool.and_eq_true] at h1
      exact rep_cellD (d := d') h1.1 g1
  have hk' := hk
  rw [show (9 : Nat) = 8 + 1 from rfl] at hk'
  simp only [kdsT] at hk'
  split at hk'
  · rename_i hu; cases hk'; obtain ⟨b, rfl⟩ := okWide_bool hu hval; exact one _ rfl (by simp [agg?, hu]) rfl
  · rename_i k hu; cases hk'; obtain ⟨b, rfl⟩ := okWide_int hu hval; exact one _ rfl (by simp [agg?, hu]) rfl
  · rename_i hu; cases hk'; obtain ⟨b, rfl⟩ := okWide_string hu hval; exact one _ rfl (by simp [agg?, hu]) rfl
  · rename_i e hu
    split at hk'
    · split at hk'
      · cases hk'; obtain ⟨a, l, c, rfl⟩ := okWide_slice hu hval; exact one _ rfl (by simp [agg?, hu]) rfl
      · cases hk'
    · cases hk'
  · rename_i fs hu
    simp only [Value.okWide, hu] at hval
    obtain ⟨cs, rfl, _, _⟩ := hval
    have hag : agg? P t = some true := by simp [agg?, hu]
    unfold argA
    rw [hag]
    obtain ⟨l⟩ := cs
    exact .agg _ l (rep_cells (by simpa [Value.cells] using h2) h1)
  · rename_i l e hu
    simp only [Value.okWide, hu] at hval
    obtain ⟨cs, rfl, _, _⟩ := hval
    have hag : agg? P t = some true := by simp [agg?, hu]
    unfold argA
    rw [hag]
    obtain ⟨l⟩ := cs
    exact .agg _ l (rep_cells (by simpa [Value.cells] using h2) h1)
  · cases hk'

theorem open_args {b0 : Nat} {loc : Nat → Option Nat} {tk : Nat → Option (Value × Nat)} {cap : Nat → Nat} {M0 : Mm} : ∀ (ts : List TypeId) (vs : List Value) (ds gs : List (DataW H)) (ts' : List TypeId) (p : List MemPlace), (∀ t ∈ ts, (kdsT P 9 t).isSome = true) →
    (∀ (j : Nat) t v, ts[j]? = some t → vs[j]? = some v → Value.okWide P w .any b0 t v) → DataW.TrodAll enc P w 0 spare held ts vs ds p → (∀ q ∈ DataW.weightsEach P (ts ++ ts') (ds ++ gs), q ≤ reachBytes) →
    ∃ rows, Fits P ts rows ∧ RepL ⟨cellsM w, loc, tk, cap, M0⟩ (argsA P ts rows) vs
  | [], vs, ds, gs, ts', p, _, _, h, _ => by
    obtain ⟨rfl, rfl, rfl⟩ := trodAll_nil h
    exact ⟨[], trivial, .nil⟩
  | t :: ts, vs, ds, gs, ts', p, hk, hval, h, hw => by
    obtain ⟨v, vs', d, ds', p', q', rfl, rfl, rfl, h1, h2⟩ := trodAll_cons h
    obtain ⟨ks, hks⟩ := Option.isSome_iff_exists.1 (hk t (List.mem_cons_self ..))
    simp only [List.cons_append, DataW.weightsEach, List.mem_append] at hw
    obtain ⟨row, a1, a2, a3⟩ := open_arg hks (hval 0 t v rfl rfl) h1 (fun q hq => hw q (.inl hq))
    obtain ⟨rows, b1, b2⟩ := open_args ts vs' ds' gs ts' q' (fun t ht => hk t (List.mem_cons_of_mem _ ht)) (fun j t v ht hv => hval (j + 1) t v (by simpa using ht) (by simpa using hv)) h2 (fun q hq => hw q (.inr hq))
    refine ⟨row :: rows, ⟨⟨ks, hks, a1, a2⟩, b1⟩, ?_⟩
    simp only [argsA, hks]
    exact .cons _ _ _ _ a3 b2

theorem back_args {w' : World} (hl : laidOutB P = true) (hb : Below w.heap.size w w') : ∀ (ts : List TypeId) (vs : List Value) (ds : List (DataW H)) (p : List MemPlace), (∀ t ∈ ts, P.readableRec t = true ∧ t < P.types.size) →
    DataW.TrodAll enc P w 0 (fun _ => true) true ts vs ds p → DataW.TrodAll enc P w' 0 (fun b => decide (b < w.heap.size)) true ts vs ds p
  | [], vs, ds, p, _, h => by
    obtain ⟨rfl, rfl, rfl⟩ := trodAll_nil h
    exact trodAll_mk0
  | t :: ts, vs, ds, p, hk, h => by
    obtain ⟨v, vs', d, ds', p', q', rfl, rfl, rfl, h1, h2⟩ := trodAll_cons h
    have hlt : ∀ x ∈ p', x.block < w.heap.size := by obtain ⟨m, hm⟩ := h1; exact DataW.trod_lt m _ _ _ hm
    exact trodAll_cons_mk (Below.trod hl (hk t (List.mem_cons_self ..)).1 (hk t (List.mem_cons_self ..)).2 h1 hb hlt) (back_args hl hb ts vs' ds' q' (fun t ht => hk t (List.mem_cons_of_mem _ ht)) h2)
end
end Go.Den
