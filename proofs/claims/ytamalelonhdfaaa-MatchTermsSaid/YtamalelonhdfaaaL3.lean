import Derived.Test.YtamalelonhdfaaaE3
import Derived.Test.YtamalelonhdfaaaL14
import Derived.Test.YtamalelonhdfaaaTab11
namespace Go.Den
open Go.Proofs
/-- live() says true: evaluated, with all that it calls inlined. -/
theorem live_e : denFn Try.prog (with_ Try.prog Spec.none tab11 50 10 [12]) [] 50 Try.f9 true [] [] some = some ⟨false, .B true, []⟩ := by kernel_rfl
theorem k9 : Contract Try.prog 9 [] [] ⟨false, .B true, []⟩ :=
  fn_ok (with_ok (T := tab11) mixed (by kernel_rfl) (SpecOk.none _) 50 10 [12]) mixed Try.func9 (by decide) live_e
theorem c9 : Spec1Ok Try.prog 9 gLive := by
  intro R args ext K r h
  unfold gLive at h ⊢
  split at h
  · exact ⟨_, k9, h, fun R' K' => rfl⟩
  · cases h
theorem ok3 (n : Nat) : OSound Try.prog (Φ3 n) := with_ok mixed (by kernel_rfl) (sp_ok c9 (sp_ok c10 (sp_ok c11 (sp_ok c12 (sp_ok c13 (sp_ok c14 (SpecOk.none _))))))) n 0 []
theorem uni_len (v : ByteArray) (b : Bool) (i : Int) (s : ByteArray) (cb : Bool) (ci : Int) (cs : ByteArray) (rows : Rows) : (uni v b i s cb ci cs rows).2.length ≤ rows.length + 1 := by
  unfold uni
  cases (val v b i s rows).1 <;> cases sameC (val v b i s rows).2 cb ci cs <;> cases nilT v b i s <;> simp
theorem k3 (v : ByteArray) (b : Bool) (i : Int) (s : ByteArray) (cb : Bool) (ci : Int) (cs : ByteArray) (nl : Bool) (rows : Rows) :
    Contract Try.prog 3 [.agg [.S v, .B b, .I .i64 i, .S s], .agg [.B cb, .I .i64 ci, .S cs], .sl nl kB rows .no] [] ⟨false, .B true, []⟩ := by
  refine fn_ok (ok3 0) mixed Try.func3 (by decide) (lv := []) (n := 0) (keep := false) ?_
  refine (f3_e _ _ _ _ _ _ _ _ _ _).trans ?_
  by_cases h : (rows.length : Int) > 200
  · simp only [h, decide_true, cond_true]
  · have hu := uni_len v b i s cb ci cs rows
    have h1 : 0 + rows.length < 2147483648 := by omega
    have h2 : rows.length < 4611686018427387904 := by omega
    have h3 : rows.length < 1000000000 := by omega
    have h4 : (uni v b i s cb ci cs rows).2.length < 4611686018427387904 := by omega
    simp only [h, decide_false, cond_false, List.nil_append, h1, h2, h3, h4, if_true, beq_self_eq_true, Bool.and_true, cond_true, like_refl]
end Go.Den
