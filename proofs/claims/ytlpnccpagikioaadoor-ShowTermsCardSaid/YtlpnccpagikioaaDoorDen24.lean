import Derived.Test.YtlpnccpagikioaaDoorDen23
set_option linter.unusedVariables false
set_option linter.unusedSimpArgs false
set_option linter.unusedSectionVars false
/- Shapes of values, and functions as oracles by their own answers. -/
namespace Go.Den
/-- Rows behind rows. -/
@[reducible] def appX (a b : Rows) : Rows := a ++ b
def obind {α R : Type} (o : Option α) (k : α → Option R) : Option R :=
  match o with
  | some a => k a
  | none => none
@[simp] theorem obind_some {α R : Type} (a : α) (k : α → Option R) : obind (some a) k = k a := rfl
@[simp] theorem obind_none {α R : Type} (k : α → Option R) : obind none k = none := rfl

inductive Sh where
  | b | i (k : IntKind) | s
  | sl (ks : List Kd)
  | slt (ks : List Kd) (j : Nat)
  | agg (l : List Sh) | tup (l : List Sh)
  | pl (k off : Nat) | fn (f : FuncId) (caps : List Sh) | ifc (t : TypeId) (a : Sh)
  | pv (ks : List Kd) (off : Nat)
  | ms (k : Nat) (ks : List Kd) | ms0 (k : Nat) (ks : List Kd) | pa (k : Nat) (ks : List Kd) (j : Nat) | arr (ks : List Kd)
  | nilp | nilf | nili | nilm | junk

mutual
@[reducible] def Sh.ty : Sh → Type
  | .b => Bool
  | .i _ => Int
  | .s => ByteArray
  | .sl _ => Bool × Rows
  | .slt _ _ => Bool × Rows
  | .agg l => Sh.tyL l
  | .tup l => Sh.tyL l
  | .pl _ _ => Unit
  | .fn _ l => Sh.tyL l
  | .ifc _ a => Sh.ty a
  | .pv _ _ => Row
  | .ms _ _ => Nat × Nat × Nat
  | .ms0 _ _ => Nat × Nat
  | .pa _ _ _ => Nat
  | .arr _ => Rows
  | .nilp => Unit
  | .nilf => Unit
  | .nili => Unit
  | .nilm => Unit
  | .junk => Unit
@[reducible] def Sh.tyL : List Sh → Type
  | [] => Unit
  | a :: l => Sh.ty a × Sh.tyL l
end
@[reducible] def Sh.tyLL : List (List Sh) → Type
  | [] => Unit
  | a :: l => Sh.tyL a × Sh.tyLL l

mutual
def Sh.enc : (a : Sh) → a.ty → AV
  | .b, y => .B y
  | .i k, y => .I k y
  | .s, y => .S y
  | .sl ks, y => .sl y.1 ks y.2 .no
  | .slt ks j, y => .sl y.1 ks y.2 (.tok j)
  | .agg l, y => .agg (Sh.encL l y)
  | .tup l, y => .tup (Sh.encL l y)
  | .pl k off, _ => .pl k off
  | .fn f l, y => .fn f (Sh.encL l y)
  | .ifc t a, y => .ifc t (Sh.enc a y)
  | .pv ks off, y => .pv ks y off
  | .ms k ks, y => .ms k ks y.1 y.2.1 y.2.2
  | .ms0 k ks, y => .ms k ks 0 y.1 y.2
  | .pa k ks j, y => .pa k ks y j
  | .arr ks, y => .arr ks y
  | .nilp, _ => .dv (.val (.pointer none))
  | .nilf, _ => .dv (.val .nilFunc)
  | .nili, _ => .dv (.val .nilIface)
  | .nilm, _ => .dv (.val (.map none))
  | .junk, _ => .junk
def Sh.encL : (l : List Sh) → Sh.tyL l → List AV
  | [], _ => []
  | a :: l, y => Sh.enc a y.1 :: Sh.encL l y.2
end
def Sh.encLL : (l : List (List Sh)) → Sh.tyLL l → List (List AV)
  | [], _ => []
  | a :: l, y => Sh.encL a y.1 :: Sh.encLL l y.2

mutual
def Sh.dec : (a : Sh) → AV → Option a.ty
  | .b, v => match v with | .dv (.val (.bool x)) => some x | _ => none
  | .i k, v => match v with | .dv (.val (.int j n)) => (if k = j then some n else none) | _ => none
  | .s, v => match v with | .dv (.val (.string x)) => some x | _ => none
  | .sl ks, v => match v with | .sl n kd rows .no => (match Kd.sameL kd ks with | true => some (n, rows) | false => none) | _ => none
  | .slt ks j, v => match v with | .sl n kd rows (.tok q) => (match Kd.sameL kd ks && Nat.beq q j with | true => some (n, rows) | false => none) | _ => none
  | .agg l, v => match v with | .agg cs => Sh.decL l cs | _ => none
  | .tup l, v => match v with | .tup cs => Sh.decL l cs | _ => none
  | .pl k off, v => match v with | .pl k' off' => (match Nat.beq k' k && Nat.beq off' off with | true => some () | false => none) | _ => none
  | .fn f l, v => match v with | .fn g cs => (match Nat.beq g f with | true => Sh.decL l cs | false => none) | _ => none
  | .ifc t a, v => match v with | .ifc u w => (match Nat.beq u t with | true => Sh.dec a w | false => none) | _ => none
  | .pv ks off, v => match v with | .pv kd row off' => (match Kd.sameL kd ks && Nat.beq off' off with | true => some row | false => none) | _ => none
  | .ms k ks, v => match v with | .ms k' kd off n c => (match Nat.beq k' k && Kd.sameL kd ks with | true => some (off, n, c) | false => none) | _ => none
  | .ms0 k ks, v => match v with | .ms k' kd off n c => (match Nat.beq k' k && (Kd.sameL kd ks && Nat.beq off 0) with | true => some (n, c) | false => none) | _ => none
  | .pa k ks j, v => match v with | .pa k' kd q j' => (match Nat.beq k' k && (Kd.sameL kd ks && Nat.beq j' j) with | true => some q | false => none) | _ => none
  | .arr ks, v => match v with | .arr kd rows => (match Kd.sameL kd ks with | true => some rows | false => none) | _ => none
  | .nilp, v => match v with | .dv (.val (.pointer none)) => some () | _ => none
  | .nilf, v => match v with | .dv (.val .nilFunc) => some () | _ => none
  | .nili, v => match v with | .dv (.val .nilIface) => some () | _ => none
  | .nilm, v => match v with | .dv (.val (.map none)) => some () | _ => none
  | .junk, v => match v with | .junk => some () | _ => none
def Sh.decL : (l : List Sh) → List AV → Option (Sh.tyL l)
  | [], vs => match vs with | [] => some () | _ => none
  | a :: l, vs => match vs with
    | v :: vs => match Sh.dec a v with
      | some x => match Sh.decL l vs with
        | some xs => some (x, xs)
        | none => none
      | none => none
    | [] => none
end
def Sh.decLL : (l : List (List Sh)) → List (List AV) → Option (Sh.tyLL l)
  | [], vs => match vs with | [] => some () | _ => none
  | a :: l, vs => match vs with
    | v :: vs => match Sh.decL a v with
      | some x => match Sh.decLL l vs with
        | some xs => some (x, xs)
        | none => none
      | none => none
    | [] => none

mutual
theorem Sh.dec_enc : ∀ (a : Sh) (v : AV) (y : a.ty), Sh.dec a v = some y → v = Sh.enc a y
  | .b, v, y, h => by unfold Sh.dec at h; split at h <;> cases h; rfl
  | .i k, v, y, h => by
    unfold Sh.dec at h; split at h
    · split at h
      · rename_i h1; cases h; subst h1; rfl
      · cases h
    · cases h
  | .s, v, y, h => by unfold Sh.dec at h; split at h <;> cases h; rfl
  | .sl ks, v, y, h => by
    unfold Sh.dec at h; split at h
    · split at h
      · rename_i h1; cases h; obtain rfl := Kd.sameL_eq h1; rfl
      · cases h
    · cases h
  | .slt ks j, v, y, h => by
    unfold Sh.dec at h; split at h
    · split at h
      · rename_i h1; simp only [Bool.and_eq_true, beq_eq] at h1; obtain ⟨h1, rfl⟩ := h1; obtain rfl := Kd.sameL_eq h1; cases h; rfl
      · cases h
    · cases h
  | .agg l, v, y, h => by
    unfold Sh.dec at h; split at h
    · rw [Sh.decL_enc l _ y h]; rfl
    · cases h
  | .tup l, v, y, h => by
    unfold Sh.dec at h; split at h
    · rw [Sh.decL_enc l _ y h]; rfl
    · cases h
  | .pl k off, v, y, h => by
    unfold Sh.dec at h; split at h
    · split at h
      · rename_i h1; simp only [Bool.and_eq_true, beq_eq] at h1; obtain ⟨rfl, rfl⟩ := h1; rfl
      · cases h
    · cases h
  | .fn f l, v, y, h => by
    unfold Sh.dec at h; split at h
    · split at h
      · rename_i h1; simp only [beq_eq] at h1; subst h1; rw [Sh.decL_enc l _ y h]; rfl
      · cases h
    · cases h
  | .ifc t a, v, y, h => by
    unfold Sh.dec at h; split at h
    · split at h
      · rename_i h1; simp only [beq_eq] at h1; subst h1; rw [Sh.dec_enc a _ y h]; rfl
      · cases h
    · cases h
  | .pv ks off, v, y, h => by
    unfold Sh.dec at h; split at h
    · split at h
      · rename_i h1; simp only [Bool.and_eq_true, beq_eq] at h1; obtain ⟨h1, rfl⟩ := h1; obtain rfl := Kd.sameL_eq h1; cases h; rfl
      · cases h
    · cases h
  | .ms k ks, v, y, h => by
    unfold Sh.dec at h; split at h
    · split at h
      · rename_i h1; simp only [Bool.and_eq_true, beq_eq] at h1; obtain ⟨rfl, h1⟩ := h1; obtain rfl := Kd.sameL_eq h1; cases h; rfl
      · cases h
    · cases h
  | .ms0 k ks, v, y, h => by
    unfold Sh.dec at h; split at h
    · split at h
      · rename_i h1; simp only [Bool.and_eq_true, beq_eq] at h1; obtain ⟨rfl, h1, rfl⟩ := h1; obtain rfl := Kd.sameL_eq h1; cases h; rfl
      · cases h
    · cases h
  | .pa k ks j, v, y, h => by
    unfold Sh.dec at h; split at h
    · split at h
      · rename_i h1; simp only [Bool.and_eq_true, beq_eq] at h1; obtain ⟨rfl, h1, rfl⟩ := h1; obtain rfl := Kd.sameL_eq h1; cases h; rfl
      · cases h
    · cases h
  | .arr ks, v, y, h => by
    unfold Sh.dec at h; split at h
    · split at h
      · rename_i h1; cases h; obtain rfl := Kd.sameL_eq h1; rfl
      · cases h
    · cases h
  | .nilp, v, y, h => by unfold Sh.dec at h; split at h <;> cases h; rfl
  | .nilf, v, y, h => by unfold Sh.dec at h; split at h <;> cases h; rfl
  | .nili, v, y, h => by unfold Sh.dec at h; split at h <;> cases h; rfl
  | .nilm, v, y, h => by unfold Sh.dec at h; split at h <;> cases h; rfl
  | .junk, v, y, h => by unfold Sh.dec at h; split at h <;> cases h; rfl
theorem Sh.decL_enc : ∀ (l : List Sh) (vs : List AV) (y : Sh.tyL l), Sh.decL l vs = some y → vs = Sh.encL l y
  | [], vs, y, h => by unfold Sh.decL at h; split at h <;> cases h; rfl
  | _ :: _, [], y, h => by simp [Sh.decL] at h
  | a :: l, v :: vs, y, h => by
    simp only [Sh.decL] at h
    cases h1 : Sh.dec a v with
    | none => rw [h1] at h; cases h
    | some x =>
      cases h2 : Sh.decL l vs with
      | none => rw [h1, h2] at h; cases h
      | some xs =>
        rw [h1, h2] at h
        cases h
        rw [Sh.dec_enc a v x h1, Sh.decL_enc l vs xs h2]; rfl
end
theorem Sh.decLL_enc : ∀ (l : List (List Sh)) (vs : List (List AV)) (y : Sh.tyLL l), Sh.decLL l vs = some y → vs = Sh.encLL l y
  | [], vs, y, h => by unfold Sh.decLL at h; split at h <;> cases h; rfl
  | _ :: _, [], y, h => by simp [Sh.decLL] at h
  | a :: l, v :: vs, y, h => by
    simp only [Sh.decLL] at h
    cases h1 : Sh.decL a v with
    | none => rw [h1] at h; cases h
    | some x =>
      cases h2 : Sh.decLL l vs with
      | none => rw [h1, h2] at h; cases h
      | some xs =>
        rw [h1, h2] at h
        cases h
        rw [Sh.decL_enc a v x h1, Sh.decLL_enc l vs xs h2]; rfl

mutual
def Sh.dflt : (a : Sh) → a.ty
  | .b => false
  | .i _ => 0
  | .s => ByteArray.mk #[]
  | .sl _ => (true, [])
  | .slt _ _ => (true, [])
  | .agg l => Sh.dfltL l
  | .tup l => Sh.dfltL l
  | .pl _ _ => ()
  | .fn _ l => Sh.dfltL l
  | .ifc _ a => Sh.dflt a
  | .pv _ _ => []
  | .ms _ _ => (0, 0, 0)
  | .ms0 _ _ => (0, 0)
  | .pa _ _ _ => 0
  | .arr _ => []
  | .nilp => ()
  | .nilf => ()
  | .nili => ()
  | .nilm => ()
  | .junk => ()
def Sh.dfltL : (l : List Sh) → Sh.tyL l
  | [] => ()
  | a :: l => (Sh.dflt a, Sh.dfltL l)
end
/-- What a call comes to: without panics; with. -/
inductive OSh where
  | plain (so : Sh) (sx : List (List Sh))
  | pan (so sp : Sh) (sx : List (List Sh))
@[reducible] def OSh.ty : OSh → Type
  | .plain so sx => so.ty × Sh.tyLL sx
  | .pan so sp sx => Bool × so.ty × sp.ty × Sh.tyLL sx
def OSh.enc : (o : OSh) → o.ty → Out
  | .plain so sx, y => ⟨false, Sh.enc so y.1, Sh.encLL sx y.2⟩
  | .pan so sp sx, y => ⟨y.1, match y.1 with | true => Sh.enc sp y.2.2.1 | false => Sh.enc so y.2.1, Sh.encLL sx y.2.2.2⟩
def OSh.chk : (o : OSh) → Out → Option o.ty
  | .plain so sx, out => match out.pan with
    | true => none
    | false => match Sh.dec so out.res with
      | some y => match Sh.decLL sx out.ext with
        | some e => some (y, e)
        | none => none
      | none => none
  | .pan so sp sx, out => match out.pan with
    | true => match Sh.dec sp out.res with
      | some y => match Sh.decLL sx out.ext with
        | some e => some (true, Sh.dflt so, y, e)
        | none => none
      | none => none
    | false => match Sh.dec so out.res with
      | some y => match Sh.decLL sx out.ext with
        | some e => some (false, y, Sh.dflt sp, e)
        | none => none
      | none => none
theorem OSh.chk_enc : ∀ (o : OSh) (out : Out) (y : o.ty), o.chk out = some y → out = o.enc y
  | .plain so sx, ⟨pn, res, ext⟩, y, h => by
    unfold OSh.chk at h
    simp only at h
    split at h
    · cases h
    · split at h
      · rename_i u h1
        split at h
        · rename_i e h2
          cases h
          rw [Sh.dec_enc _ _ _ h1, Sh.decLL_enc _ _ _ h2]; rfl
        · cases h
      · cases h
  | .pan so sp sx, ⟨pn, res, ext⟩, y, h => by
    unfold OSh.chk at h
    simp only at h
    split at h
    · split at h
      · rename_i u h1
        split at h
        · rename_i e h2
          cases h
          rw [Sh.dec_enc _ _ _ h1, Sh.decLL_enc _ _ _ h2]; rfl
        · cases h
      · cases h
    · split at h
      · rename_i u h1
        split at h
        · rename_i e h2
          cases h
          rw [Sh.dec_enc _ _ _ h1, Sh.decLL_enc _ _ _ h2]; rfl
        · cases h
      · cases h

/-- What stands behind a call, told what it comes to. -/
def OSh.run {R : Type} : (o : OSh) → o.ty → (Out → Option R) → Option R
  | .plain so sx, y, K => K ⟨false, Sh.enc so y.1, Sh.encLL sx y.2⟩
  | .pan so sp sx, y, K => match y.1 with
    | true => K ⟨true, Sh.enc sp y.2.2.1, Sh.encLL sx y.2.2.2⟩
    | false => K ⟨false, Sh.enc so y.2.1, Sh.encLL sx y.2.2.2⟩
theorem OSh.run_eq {R : Type} (o : OSh) (y : o.ty) (K : Out → Option R) : o.run y K = K (o.enc y) := by
  cases o with
  | plain so sx => rfl
  | pan so sp sx =>
    obtain ⟨p, y⟩ := y
    cases p <;> rfl
/-- A function's answers as an oracle. -/
def inst (f0 : FuncId) (sa : List Sh) (se : List (List Sh)) (o : OSh) (v : Sh.tyL sa → Sh.tyLL se → Option o.ty) (τ : Spec) : Spec := fun R f args ext K =>
  match Nat.beq f f0 with
  | true => match Sh.decL sa args with
    | some x => match Sh.decLL se ext with
      | some e => obind (v x e) (fun y => o.run y K)
      | none => τ R f args ext K
    | none => τ R f args ext K
  | false => τ R f args ext K
theorem inst_ok {P : Program} {f0 : FuncId} {sa : List Sh} {se : List (List Sh)} {o : OSh} {v : Sh.tyL sa → Sh.tyLL se → Option o.ty} {τ : Spec}
    (h : ∀ x e y, v x e = some y → Contract P f0 (Sh.encL sa x) (Sh.encLL se e) (o.enc y)) (hτ : SpecOk P τ) : SpecOk P (inst f0 sa se o v τ) := by
  intro f R args ext k r hr
  cases hf : Nat.beq f f0 with
  | false =>
    simp only [inst, hf] at hr ⊢
    exact hτ f R args ext k r hr
  | true =>
    obtain rfl := beq_eq.1 hf
    cases hx : Sh.decL sa args with
    | none =>
      simp only [inst, hf, hx] at hr ⊢
      exact hτ f R args ext k r hr
    | some x =>
      cases he : Sh.decLL se ext with
      | none =>
        simp only [inst, hf, hx, he] at hr ⊢
        exact hτ f R args ext k r hr
      | some e =>
        simp only [inst, hf, hx, he] at hr ⊢
        cases hv : v x e with
        | none => rw [hv] at hr; cases hr
        | some y =>
          rw [hv] at hr
          refine ⟨o.enc y, ?_, (o.run_eq y k).symm.trans hr, fun R' k' => o.run_eq y k'⟩
          rw [Sh.decL_enc _ _ _ hx, Sh.decLL_enc _ _ _ he]
          exact h x e y hv
theorem auto_ok {P : Program} {Φ : Orc} (hΦ : OSound P Φ) (hp : Pick Φ) (hmix : P.follows .mixedOrders = true) {f : FuncId} {fn : Func} (hf : P.funcs[f]? = some fn) (hname : fn.name ≠ "runtime.NumGoroutine") {lv : Live} {n : Nat} {keep : Bool}
    {args : List AV} {ext : List (List AV)} {o : OSh} {y : o.ty} (h : denFn P Φ lv n fn keep args ext o.chk = some y) : Contract P f args ext (o.enc y) := by
  obtain ⟨out, h1, h2⟩ := denFn_pick hp h
  rw [← o.chk_enc out y h1]
  exact fn_ok hΦ hmix hf hname (h2 Out some)
theorem with_pick {P : Program} {σ : Spec} {T : Tab} (hmix : P.follows .mixedOrders = true) (hT : Tab.named P T = true) (h : SpecOk P σ) (n d : Nat) (hs : List Nat) : Pick (with_ P σ T n d hs) :=
  (inl_ok hmix hT (h.pick []) (h.sound []) d hs).1
end Go.Den
