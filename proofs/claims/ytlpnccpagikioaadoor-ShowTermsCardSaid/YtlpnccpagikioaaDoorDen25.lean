import Derived.Test.YtlpnccpagikioaaDoorDen24
set_option linter.unusedVariables false
set_option linter.unusedSimpArgs false
set_option linter.unusedSectionVars false
/- Slices that are nil have no rows; plain facts. -/
namespace Go.Den
mutual
def DV.wf : DV → Bool
  | .val _ => true
  | .sl nl _ rows => (!nl || rows.isEmpty) && Rows.wf rows
def Rowwf : List DV → Bool
  | [] => true
  | d :: r => DV.wf d && Rowwf r
def Rows.wf : List (List DV) → Bool
  | [] => true
  | r :: l => Rowwf r && Rows.wf l
end
mutual
theorem RepD.wf {M : Mm} : ∀ {d v}, RepD M d v → DV.wf d = true
  | _, _, .val v h => rfl
  | _, _, .nil ks => rfl
  | _, _, .sl ks rows a c h1 h2 h3 => by simp only [DV.wf, Bool.not_false, Bool.true_or, Bool.true_and]; exact RowsAt.wf h3
theorem RowsAt.wf {M : Mm} : ∀ {b o ks rows}, RowsAt M b o ks rows → Rows.wf rows = true
  | _, _, _, _, .nil b o ks => rfl
  | _, _, _, _, .cons b o ks row rows h1 h2 h3 => by simp only [Rows.wf, CellsAt.wf h2, RowsAt.wf h3, Bool.and_self]
theorem CellsAt.wf {M : Mm} : ∀ {b o r}, CellsAt M b o r → Rowwf r = true
  | _, _, _, .nil b o => rfl
  | _, _, _, .cons b o d v r h1 h2 h3 => by simp only [Rowwf, RepD.wf h2, CellsAt.wf h3, Bool.and_self]
end
mutual
def AV.wf : AV → Bool
  | .sl nl ks rows _ => DV.wf (.sl nl ks rows)
  | .agg cs => AV.wfL cs
  | _ => true
def AV.wfL : List AV → Bool
  | [] => true
  | a :: l => AV.wf a && AV.wfL l
end
mutual
theorem Rep.wf {x : X} : ∀ {a v}, Rep x a v → AV.wf a = true
  | _, _, .dv d v hd => rfl
  | _, _, .sl n kd rows r v hd hr => RepD.wf hd
  | _, _, .agg cs vs hl => RepL.wf hl
  | _, _, .tup cs vs hl => rfl
  | _, _, .pl k off b hk => rfl
  | _, _, .pv kd row off b o h1 h2 => rfl
  | _, _, .fn f cs vs hl => rfl
  | _, _, .ifc t a v ha => rfl
  | _, _, .ms k kd off n c b o c' hk g1 g2 g3 => rfl
  | _, _, .pa k kd i j b hk => rfl
  | _, _, .junk v => rfl
theorem RepL.wf {x : X} : ∀ {l vs}, RepL x l vs → AV.wfL l = true
  | _, _, .nil => rfl
  | _, _, .cons a v l vs ha hl => by simp only [AV.wfL, Rep.wf ha, RepL.wf hl, Bool.and_self]
end
/-- A law's contract, where its arguments' slices are sound. -/
theorem contract_wf {P : Program} {f : FuncId} {fn : Func} (hf : P.funcs[f]? = some fn) (hb : fn.body.isSome = true) (hn : fn.name ≠ "runtime.NumGoroutine") {args : List AV} {ext : List (List AV)} {out : Out}
    (h : AV.wfL args = true → Contract P f args ext out) : Contract P f args ext out := by
  cases hw : AV.wfL args with
  | true => exact h hw
  | false => exact contract_vac hf hb hn fun x vs hr => by rw [hr.wf] at hw; cases hw
theorem DV.wf_sl {nl : Bool} {ks : List Kd} {rows : Rows} : DV.wf (.sl nl ks rows) = true ↔ (nl = true → rows = []) ∧ Rows.wf rows = true := by
  simp only [DV.wf, Bool.and_eq_true, Bool.or_eq_true, Bool.not_eq_true', List.isEmpty_iff]
  constructor
  · rintro ⟨h1 | h1, h2⟩
    · exact ⟨fun h => (by rw [h1] at h; cases h), h2⟩
    · exact ⟨fun _ => h1, h2⟩
  · rintro ⟨h1, h2⟩
    refine ⟨?_, h2⟩
    cases nl with
    | false => exact .inl rfl
    | true => exact .inr (h1 rfl)
theorem Rows.wf_get {rows : Rows} (h : Rows.wf rows = true) : ∀ {r}, r ∈ rows → Rowwf r = true := by
  induction rows with
  | nil => intro r hr; cases hr
  | cons a l ih =>
    simp only [Rows.wf, Bool.and_eq_true] at h
    intro r hr
    rcases List.mem_cons.1 hr with rfl | hr
    · exact h.1
    · exact ih h.2 hr
theorem Rowwf_at : ∀ {r : Row} (j : Nat), Rowwf r = true → DV.wf (Row.at r j) = true
  | [], j, _ => by simp [Row.at, DV.wf]
  | d :: r, 0, h => by simp only [Rowwf, Bool.and_eq_true] at h; exact h.1
  | d :: r, j + 1, h => by simp only [Rowwf, Bool.and_eq_true] at h; exact Rowwf_at (r := r) j h.2
theorem Rowwf_sl {r : Row} (j : Nat) (h : Rowwf r = true) : (Row.N r j = true → Row.R r j = []) ∧ Rows.wf (Row.R r j) = true := by
  have := Rowwf_at j h
  unfold Row.N Row.R
  cases hd : Row.at r j with
  | val v => simp [DV.toNl, DV.toRows, Rows.wf]
  | sl n k rows => rw [hd] at this; exact DV.wf_sl.1 this
theorem getD_mem {rows : Rows} {j : Nat} (h : j < rows.length) : rows.getD j [] ∈ rows := by
  rw [getD_get h]; exact List.getElem_mem h
theorem wrap_small {z : Int} (h1 : -4611686018427387904 ≤ z) (h2 : z ≤ 4611686018427387904) : IntKind.wrap IntKind.i64 z = z := wrap_i64 (by omega) (by omega)
end Go.Den
