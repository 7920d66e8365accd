import Derived.Test.YtamalelonhdfaaaE12
import Derived.Test.YtamalelonhdfaaaL10
namespace Go.Den
open Go.Proofs
theorem val_nil {v : ByteArray} {b : Bool} {i : Int} {s : ByteArray} {rows : Rows} (h : (val v b i s rows).1 = false) (hn : nilT v b i s = false) : (v == noS) = false := by
  unfold val at h
  rw [hn] at h
  cases hv : v == noS with
  | true => rw [hv] at h; simp at h
  | false => rfl
theorem nil_noS {v : ByteArray} {b : Bool} {i : Int} {s : ByteArray} (h : nilT v b i s = true) : (v == noS) = true := by
  unfold nilT at h
  simp only [Bool.and_eq_true] at h
  exact h.1
theorem ok12 (n : Nat) : OSound Try.prog (Φ12 n) := with_ok mixed (by kernel_rfl) (sp_ok c10 (sp_ok c11 (sp_ok c28 (SpecOk.none _)))) n 1 []
theorem k12 (v : ByteArray) (b : Bool) (i : Int) (s : ByteArray) (cb : Bool) (ci : Int) (cs : ByteArray) (nl : Bool) (rows : Rows) (hb : rows.length < cap) :
    Contract Try.prog 12 [.agg [.S v, .B b, .I .i64 i, .S s], .agg [.B cb, .I .i64 ci, .S cs], .sl nl kB rows .no] [] ⟨false, .tup [.sl (uniNl true v b i s cb ci cs nl rows) kB (uni v b i s cb ci cs rows).2 .no, .B (uni v b i s cb ci cs rows).1], []⟩ := by
  by_cases hnl : nl = true ∧ rows ≠ []
  · obtain ⟨rfl, hne⟩ := hnl
    refine contract_vac Try.func12 (by rfl) (by decide) ?_
    intro x vs h
    cases h with | cons _ _ _ _ _ h => ?_
    cases h with | cons _ _ _ _ _ h => ?_
    cases h with | cons _ _ _ _ h _ => ?_
    exact hne (rep_nil h)
  have hnl' : nl = true → rows = [] := fun h => Classical.byContradiction fun hr => hnl ⟨h, hr⟩
  refine fn_ok (ok12 0) mixed Try.func12 (by decide) (lv := []) (n := 0) (keep := false) ?_
  refine (f12_e _ _ _ _ _ _ _ _ _ _).trans ?_
  unfold cap at hb
  have h1 : rows.length < 4611686018427387904 := by omega
  have h2 : 0 + rows.length < 2147483648 := by omega
  have h3 : ([] ++ rows).length + [[DV.val (Value.string v), DV.val (Value.bool cb), DV.val (Value.int IntKind.i64 ci), DV.val (Value.string cs)]].length < 2147483648 := by simp; omega
  simp only [h1, h2, h3, if_true]
  unfold uniNl uni sameC
  cases ho : (val v b i s rows).1 with
  | true =>
    simp only [cond_true]
    cases hs : ((val v b i s rows).2.1 == cb && ((val v b i s rows).2.2.1 == ci && ((val v b i s rows).2.2.2 == cs && true))) with
    | false => rfl
    | true =>
      simp only [Bool.not_true, cond_false, cond_true]
      cases nl with
      | true => rw [hnl' rfl]; rfl
      | false => rfl
  | false =>
    simp only [cond_false]
    cases hn : nilT v b i s with
    | true =>
      have := nil_noS hn
      unfold noS at this
      rw [this]; rfl
    | false =>
      have := val_nil ho hn
      unfold noS at this
      rw [this]
      simp only [cond_false]
      cases nl with
      | true => rw [hnl' rfl]; rfl
      | false => simp [bindRow, kB]
theorem k13 (v : ByteArray) (b : Bool) (i : Int) (s : ByteArray) (cb : Bool) (ci : Int) (cs : ByteArray) (nl : Bool) (rows : Rows) (hb : rows.length < cap) :
    Contract Try.prog 13 [.agg [.S v, .B b, .I .i64 i, .S s], .agg [.B cb, .I .i64 ci, .S cs], .sl nl kB rows .no] [] ⟨false, .tup [.sl (uniNl false v b i s cb ci cs nl rows) kB (uni v b i s cb ci cs rows).2 .no, .B (uni v b i s cb ci cs rows).1], []⟩ := by
  refine fn_ok (ok12 0) mixed Try.func13 (by decide) (lv := []) (n := 0) (keep := false) ?_
  refine (f13_e _ _ _ _ _ _ _ _ _ _).trans ?_
  unfold cap at hb
  have h1 : rows.length < 4611686018427387904 := by omega
  have h2 : 0 + rows.length < 2147483648 := by omega
  have h3 : ([] ++ rows).length + [[DV.val (Value.string v), DV.val (Value.bool cb), DV.val (Value.int IntKind.i64 ci), DV.val (Value.string cs)]].length < 2147483648 := by simp; omega
  simp only [h1, h2, h3, if_true]
  unfold uniNl uni sameC
  cases ho : (val v b i s rows).1 with
  | true =>
    simp only [cond_true]
    cases hs : ((val v b i s rows).2.1 == cb && ((val v b i s rows).2.2.1 == ci && ((val v b i s rows).2.2.2 == cs && true))) with
    | false => rfl
    | true => rfl
  | false =>
    simp only [cond_false]
    unfold nilT noS
    cases hn : (v == ByteArray.mk #[] && (b == false && (i == 0 && (s == ByteArray.mk #[] && true)))) with
    | true => rfl
    | false => simp [bindRow, kB]
theorem cUni {f : FuncId} {mine : Bool} (h : ∀ v b i s cb ci cs nl rows, rows.length < cap → Contract Try.prog f [.agg [.S v, .B b, .I .i64 i, .S s], .agg [.B cb, .I .i64 ci, .S cs], .sl nl kB rows .no] [] ⟨false, .tup [.sl (uniNl mine v b i s cb ci cs nl rows) kB (uni v b i s cb ci cs rows).2 .no, .B (uni v b i s cb ci cs rows).1], []⟩) : Spec1Ok Try.prog f (gUni mine) := by
  intro R args ext K r hr
  unfold gUni at hr ⊢
  split at hr
  · rename_i v b i s cb ci cs nl ks rows
    split at hr
    · rename_i h1
      split at hr
      · rename_i h2
        have h1' := Kd.sameL_eq h1
        subst h1'
        exact ⟨_, h v b i s cb ci cs nl rows h2, hr, fun R' K' => by simp only [h1, h2, if_true]⟩
      · cases hr
    · cases hr
  · cases hr
theorem c12 : Spec1Ok Try.prog 12 (gUni true) := cUni k12
theorem c13 : Spec1Ok Try.prog 13 (gUni false) := cUni k13
end Go.Den
