import Derived.Test.YtlpnccpagikioaaDoorDen3
import Derived.Laws.Tables
import Derived.Laws.Build
set_option linter.unusedVariables false
set_option linter.unusedSimpArgs false
set_option linter.unusedSectionVars false
/- The operations are sound: first the plain ones. -/
namespace Go.Den
variable {e : Env} {x : X} {w : World} {m : Mem} {tm : List AV} {a : Act} {o : Oper} {next : Act → World → Prop} {Q : Exit → Act → World → Prop}

theorem wp_value {v : Value} {w' : World} (h : (execOp a.eval o).run e.P w = .ok (.value v) w') (hn : next (a.put o.dst v) w') : o.wp e.P a w next Q := by
  unfold Oper.wp; rw [h]; exact hn
theorem wp_skip {w' : World} (h : (execOp a.eval o).run e.P w = .ok .skip w') (hn : next (a.put o.dst undef) w') : o.wp e.P a w next Q := by
  unfold Oper.wp; rw [h]; exact hn

theorem ofConst_rep {P : Program} {t : TypeId} {v : Value} {av : AV} (h : ofConst P t v = some av) (x : X) : Rep x av v := by
  unfold ofConst at h
  split at h
  · cases h; exact .dv _ _ (.val _ rfl)
  · cases h; exact .dv _ _ (.val _ rfl)
  · cases h; exact .dv _ _ (.val _ rfl)
  · cases h; exact .dv _ _ (.val _ rfl)
  · cases h; exact .dv _ _ (.val _ rfl)
  · cases h; exact .dv _ _ (.val _ rfl)
  · split at h
    · split at h
      · cases h; exact .sl _ _ _ _ _ (.nil _) ⟨none, 0, rfl⟩
      · cases h
    · cases h
  · cases h
theorem evT_rep {P : Program} (hT : RepL x tm a.tmps.toList) {t : TypeId} {y : Operand} {av : AV} (h : evT P tm t y = some av) : Rep x av (a.eval y) := by
  cases y with
  | tmp i =>
    simp only [evT] at h
    obtain ⟨v, hv, hr⟩ := hT.get h
    simp only [Act.eval]
    rw [Array.getElem?_toList] at hv
    rw [Array.getD_eq_getD_getElem?, hv]; exact hr
  | const v => exact ofConst_rep h x
  | global g => simp [evT] at h
  | func f => simp only [evT, Option.some.injEq] at h; subst h; exact .fn f [] [] .nil
theorem evs_rep {P : Program} (hT : RepL x tm a.tmps.toList) : ∀ {ts : List TypeId} {ys : List Operand} {avs : List AV}, evs P tm ts ys = some avs → RepL x avs (ys.map a.eval)
  | _, [], avs, h => by simp only [evs, Option.some.injEq] at h; subst h; exact .nil
  | [], y :: ys, avs, h => by
    simp only [evs] at h
    split at h
    · rename_i av h1
      split at h
      · rename_i l h2; cases h; exact .cons _ _ _ _ (evT_rep hT h1) (evs_rep hT h2)
      · cases h
    · cases h
  | t :: ts, y :: ys, avs, h => by
    simp only [evs] at h
    split at h
    · rename_i av h1
      split at h
      · rename_i l h2; cases h; exact .cons _ _ _ _ (evT_rep hT h1) (evs_rep hT h2)
      · cases h
    · cases h

theorem Rep.val {v u : Value} (h : Rep x (.dv (.val v)) u) : u = v := by cases h with | dv _ _ h => cases h; rfl
theorem rep_val (x : X) {v : Value} (h : v.oneCell' = true) : Rep x (.dv (.val v)) v := .dv _ _ (.val _ h)

theorem zeroAVs_rep (x : X) : ∀ {ks : List Kd} {vs : List Value} {cs : List AV}, zeroAVs ks vs = some cs → RepL x cs vs
  | [], [], cs, h => by simp only [zeroAVs, Option.some.injEq] at h; subst h; exact .nil
  | [], v :: vs, cs, h => by simp [zeroAVs] at h
  | k :: ks, [], cs, h => by cases k <;> simp [zeroAVs] at h
  | k :: ks, v :: vs, cs, h => by
    have ih := @zeroAVs_rep x ks vs
    unfold zeroAVs at h
    split at h <;> try (cases h; done)
    all_goals try (rename_i heq _; cases heq; done)
    all_goals
      rename_i h1 h2
      cases h1; cases h2
      first
      | (split at h
         · rename_i l hl
           cases h
           refine .cons _ _ _ _ ?_ (ih hl)
           first | exact rep_val x rfl | exact .sl _ _ _ _ _ (.nil _) ⟨none, 0, rfl⟩
         · cases h)
      | (split at h
         · rename_i hk
           subst hk
           split at h
           · rename_i l hl
             cases h
             refine .cons _ _ _ _ ?_ (ih hl)
             exact rep_val x rfl
           · cases h
         · cases h)
theorem zeroOf_rep {P : Program} (x : X) {t : TypeId} {cs : List AV} (h : zeroOf P t = some cs) : ∃ i z, P.info? t = some i ∧ i.zero = some z ∧ RepL x cs z.cells.toList := by
  unfold zeroOf at h
  split at h
  · rename_i i hi
    split at h
    · rename_i z hz
      split at h
      · exact ⟨i, z, hi, hz, zeroAVs_rep x h⟩
      · cases h
    · cases h
  · cases h
end Go.Den
