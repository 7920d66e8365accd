import Derived.Test.YtbdjanjcphgjdaaGreatDoorZ02
import Derived.Recover
import Derived.Test.YtbdjanjcphgjdaaGreatDoorZ00
import Derived.KernelRfl
import Derived.Sort.Grow
import Derived.Shelf.Strconv.Itoa3
import Derived.LaidLaws
import Derived.LaidHandle
import Derived.LaidMore
import Derived.Lib.LaidTab
import Derived.Stop.LaidErr
import Derived.MakeChecks
import Derived.WalkKit
import Derived.ProofKit
import Derived.OpenShut
import Derived.JoinedOf
import Derived.ChangeVars
import Derived.ChangeSame
import Derived.Stop.Joined
import Derived.Test.YtbdjanjcphgjdaaGreatDoorProg
import Derived.Shelf.RegionOpenPlain
import Derived.Lib.Strings
import Derived.Lib.Slices
import Derived.Lib.Walk
import Derived.Lib.Builder
import Derived.Lib.AppendStr
import Derived.Lib.UnsafeStr
import Derived.BigCall
import Derived.Laws.Externs
import Derived.Laws.IdiomCopy
set_option linter.unusedVariables false
set_option linter.unusedSimpArgs false
set_option linter.unusedSectionVars false
namespace Go.Den
@[reducible] def appX (a b : Rows) : Rows := a ++ b
def obind {α R : Type} (o : Option α) (k : α → Option R) : Option R :=
 match o with
 |some a => k a
 |none => none
@[simp] theorem obind_some {α R : Type} (a : α) (k : α → Option R) : obind (some a) k = k a := rfl
@[simp] theorem obind_none {α R : Type} (k : α → Option R) : obind none k = none := rfl

inductive Sh where
 |b | i (k : IntKind) | s
 |sl (ks : List Kd)
 |slt (ks : List Kd) (j : Nat)
 |agg (l : List Sh) | tup (l : List Sh)
 |pl (k off : Nat) | fn (f : FuncId) (caps : List Sh) | ifc (t : TypeId) (a : Sh)
 |pv (ks : List Kd) (off : Nat)
 |ms (k : Nat) (ks : List Kd) | ms0 (k : Nat) (ks : List Kd) | pa (k : Nat) (ks : List Kd) (j : Nat) | arr (ks : List Kd)
 |nilp | nilf | nili | nilm | junk

mutual
@[reducible] def Sh.ty : Sh → Type
 | .b => Bool
 | .i _ => Int
 | .s => ByteArray
 | .sl _ => Bool × Rows
 | .slt _ _ => Bool × Rows
 | .agg l => Sh.tyL l
 | .tup l => Sh.tyL l
 | .pl _ _ => Unit
 | .fn _ l => Sh.tyL l
 | .ifc _ a => Sh.ty a
 | .pv _ _ => Row
 | .ms _ _ => Nat × Nat × Nat
 | .ms0 _ _ => Nat × Nat
 | .pa _ _ _ => Nat
 | .arr _ => Rows
 | .nilp => Unit
 | .nilf => Unit
 | .nili => Unit
 | .nilm => Unit
 | .junk => Unit
@[reducible] def Sh.tyL : List Sh → Type
 |[] => Unit
 |a :: l => Sh.ty a × Sh.tyL l
end
@[reducible] def Sh.tyLL : List (List Sh) → Type
 |[] => Unit
 |a :: l => Sh.tyL a × Sh.tyLL l

mutual
def Sh.enc : (a : Sh) → a.ty → AV
 | .b, y => .B y
 | .i k, y => .I k y
 | .s, y => .S y
 | .sl ks, y => .sl y.1 ks y.2 .no
 | .slt ks j, y => .sl y.1 ks y.2 (.tok j)
 | .agg l, y => .agg (Sh.encL l y)
 | .tup l, y => .tup (Sh.encL l y)
 | .pl k off, _ => .pl k off
 | .fn f l, y => .fn f (Sh.encL l y)
 | .ifc t a, y => .ifc t (Sh.enc a y)
 | .pv ks off, y => .pv ks y off
 | .ms k ks, y => .ms k ks y.1 y.2.1 y.2.2
 | .ms0 k ks, y => .ms k ks 0 y.1 y.2
 | .pa k ks j, y => .pa k ks y j
 | .arr ks, y => .arr ks y
 | .nilp, _ => .dv (.val (.pointer none))
 | .nilf, _ => .dv (.val .nilFunc)
 | .nili, _ => .dv (.val .nilIface)
 | .nilm, _ => .dv (.val (.map none))
 | .junk, _ => .junk
def Sh.encL : (l : List Sh) → Sh.tyL l → List AV
 |[], _ => []
 |a :: l, y => Sh.enc a y.1 :: Sh.encL l y.2
end
def Sh.encLL : (l : List (List Sh)) → Sh.tyLL l → List (List AV)
 |[], _ => []
 |a :: l, y => Sh.encL a y.1 :: Sh.encLL l y.2

mutual
def Sh.dec : (a : Sh) → AV → Option a.ty
 | .b, v => match v with | .dv (.val (.bool x)) => some x | _ => none
 | .i k, v => match v with | .dv (.val (.int j n)) => (if k = j then some n else none) | _ => none
 | .s, v => match v with | .dv (.val (.string x)) => some x | _ => none
 | .sl ks, v => match v with | .sl n kd rows .no => (match Kd.sameL kd ks with | true => some (n, rows) | false => none) | _ => none
 | .slt ks j, v => match v with | .sl n kd rows (.tok q) => (match Kd.sameL kd ks && Nat.beq q j with | true => some (n, rows) | false => none) | _ => none
 | .agg l, v => match v with | .agg cs => Sh.decL l cs | _ => none
 | .tup l, v => match v with | .tup cs => Sh.decL l cs | _ => none
 | .pl k off, v => match v with | .pl k' off' => (match Nat.beq k' k && Nat.beq off' off with | true => some () | false => none) | _ => none
 | .fn f l, v => match v with | .fn g cs => (match Nat.beq g f with | true => Sh.decL l cs | false => none) | _ => none
 | .ifc t a, v => match v with | .ifc u w => (match Nat.beq u t with | true => Sh.dec a w | false => none) | _ => none
 | .pv ks off, v => match v with | .pv kd row off' => (match Kd.sameL kd ks && Nat.beq off' off with | true => some row | false => none) | _ => none
 | .ms k ks, v => match v with | .ms k' kd off n c => (match Nat.beq k' k && Kd.sameL kd ks with | true => some (off, n, c) | false => none) | _ => none
 | .ms0 k ks, v => match v with | .ms k' kd off n c => (match Nat.beq k' k && (Kd.sameL kd ks && Nat.beq off 0) with | true => some (n, c) | false => none) | _ => none
 | .pa k ks j, v => match v with | .pa k' kd q j' => (match Nat.beq k' k && (Kd.sameL kd ks && Nat.beq j' j) with | true => some q | false => none) | _ => none
 | .arr ks, v => match v with | .arr kd rows => (match Kd.sameL kd ks with | true => some rows | false => none) | _ => none
 | .nilp, v => match v with | .dv (.val (.pointer none)) => some () | _ => none
 | .nilf, v => match v with | .dv (.val .nilFunc) => some () | _ => none
 | .nili, v => match v with | .dv (.val .nilIface) => some () | _ => none
 | .nilm, v => match v with | .dv (.val (.map none)) => some () | _ => none
 | .junk, v => match v with | .junk => some () | _ => none
def Sh.decL : (l : List Sh) → List AV → Option (Sh.tyL l)
 |[], vs => match vs with | [] => some () | _ => none
 |a :: l, vs => match vs with
  |v :: vs => match Sh.dec a v with
   |some x => match Sh.decL l vs with
    |some xs => some (x, xs)
    |none => none
   |none => none
  |[] => none
end
def Sh.decLL : (l : List (List Sh)) → List (List AV) → Option (Sh.tyLL l)
 |[], vs => match vs with | [] => some () | _ => none
 |a :: l, vs => match vs with
  |v :: vs => match Sh.decL a v with
   |some x => match Sh.decLL l vs with
    |some xs => some (x, xs)
    |none => none
   |none => none
  |[] => none

mutual
theorem Sh.dec_enc : ∀ (a : Sh) (v : AV) (y : a.ty), Sh.dec a v = some y → v = Sh.enc a y
 | .b, v, y, h => by unfold Sh.dec at h; split at h <;> cases h; rfl
 | .i k, v, y, h => by
  unfold Sh.dec at h; split at h
  ·split at h
   ·rename_i h1; cases h; subst h1; rfl
   ·cases h
  ·cases h
 | .s, v, y, h => by unfold Sh.dec at h; split at h <;> cases h; rfl
 | .sl ks, v, y, h => by
  unfold Sh.dec at h; split at h
  ·split at h
   ·rename_i h1; cases h; obtain rfl := Kd.sameL_eq h1; rfl
   ·cases h
  ·cases h
 | .slt ks j, v, y, h => by
  unfold Sh.dec at h; split at h
  ·split at h
   ·rename_i h1; simp only [Bool.and_eq_true, beq_eq] at h1; obtain ⟨h1, rfl⟩ := h1; obtain rfl := Kd.sameL_eq h1; cases h; rfl
   ·cases h
  ·cases h
 | .agg l, v, y, h => by
  unfold Sh.dec at h; split at h
  ·rw [Sh.decL_enc l _ y h]; rfl
  ·cases h
 | .tup l, v, y, h => by
  unfold Sh.dec at h; split at h
  ·rw [Sh.decL_enc l _ y h]; rfl
  ·cases h
 | .pl k off, v, y, h => by
  unfold Sh.dec at h; split at h
  ·split at h
   ·rename_i h1; simp only [Bool.and_eq_true, beq_eq] at h1; obtain ⟨rfl, rfl⟩ := h1; rfl
   ·cases h
  ·cases h
 | .fn f l, v, y, h => by
  unfold Sh.dec at h; split at h
  ·split at h
   ·rename_i h1; simp only [beq_eq] at h1; subst h1; rw [Sh.decL_enc l _ y h]; rfl
   ·cases h
  ·cases h
 | .ifc t a, v, y, h => by
  unfold Sh.dec at h; split at h
  ·split at h
   ·rename_i h1; simp only [beq_eq] at h1; subst h1; rw [Sh.dec_enc a _ y h]; rfl
   ·cases h
  ·cases h
 | .pv ks off, v, y, h => by
  unfold Sh.dec at h; split at h
  ·split at h
   ·rename_i h1; simp only [Bool.and_eq_true, beq_eq] at h1; obtain ⟨h1, rfl⟩ := h1; obtain rfl := Kd.sameL_eq h1; cases h; rfl
   ·cases h
  ·cases h
 | .ms k ks, v, y, h => by
  unfold Sh.dec at h; split at h
  ·split at h
   ·rename_i h1; simp only [Bool.and_eq_true, beq_eq] at h1; obtain ⟨rfl, h1⟩ := h1; obtain rfl := Kd.sameL_eq h1; cases h; rfl
   ·cases h
  ·cases h
 | .ms0 k ks, v, y, h => by
  unfold Sh.dec at h; split at h
  ·split at h
   ·rename_i h1; simp only [Bool.and_eq_true, beq_eq] at h1; obtain ⟨rfl, h1, rfl⟩ := h1; obtain rfl := Kd.sameL_eq h1; cases h; rfl
   ·cases h
  ·cases h
 | .pa k ks j, v, y, h => by
  unfold Sh.dec at h; split at h
  ·split at h
   ·rename_i h1; simp only [Bool.and_eq_true, beq_eq] at h1; obtain ⟨rfl, h1, rfl⟩ := h1; obtain rfl := Kd.sameL_eq h1; cases h; rfl
   ·cases h
  ·cases h
 | .arr ks, v, y, h => by
  unfold Sh.dec at h; split at h
  ·split at h
   ·rename_i h1; cases h; obtain rfl := Kd.sameL_eq h1; rfl
   ·cases h
  ·cases h
 | .nilp, v, y, h => by unfold Sh.dec at h; split at h <;> cases h; rfl
 | .nilf, v, y, h => by unfold Sh.dec at h; split at h <;> cases h; rfl
 | .nili, v, y, h => by unfold Sh.dec at h; split at h <;> cases h; rfl
 | .nilm, v, y, h => by unfold Sh.dec at h; split at h <;> cases h; rfl
 | .junk, v, y, h => by unfold Sh.dec at h; split at h <;> cases h; rfl
theorem Sh.decL_enc : ∀ (l : List Sh) (vs : List AV) (y : Sh.tyL l), Sh.decL l vs = some y → vs = Sh.encL l y
 |[], vs, y, h => by unfold Sh.decL at h; split at h <;> cases h; rfl
 |_ :: _, [], y, h => by simp [Sh.decL] at h
 |a :: l, v :: vs, y, h => by
  simp only [Sh.decL] at h
  cases h1 : Sh.dec a v with
  |none => rw [h1] at h; cases h
  |some x =>
   cases h2 : Sh.decL l vs with
   |none => rw [h1, h2] at h; cases h
   |some xs =>
    rw [h1, h2] at h
    cases h
    rw [Sh.dec_enc a v x h1, Sh.decL_enc l vs xs h2]; rfl
end
theorem Sh.decLL_enc : ∀ (l : List (List Sh)) (vs : List (List AV)) (y : Sh.tyLL l), Sh.decLL l vs = some y → vs = Sh.encLL l y
 |[], vs, y, h => by unfold Sh.decLL at h; split at h <;> cases h; rfl
 |_ :: _, [], y, h => by simp [Sh.decLL] at h
 |a :: l, v :: vs, y, h => by
  simp only [Sh.decLL] at h
  cases h1 : Sh.decL a v with
  |none => rw [h1] at h; cases h
  |some x =>
   cases h2 : Sh.decLL l vs with
   |none => rw [h1, h2] at h; cases h
   |some xs =>
    rw [h1, h2] at h
    cases h
    rw [Sh.decL_enc a v x h1, Sh.decLL_enc l vs xs h2]; rfl

mutual
def Sh.dflt : (a : Sh) → a.ty
 | .b => false
 | .i _ => 0
 | .s => ByteArray.mk #[]
 | .sl _ => (true, [])
 | .slt _ _ => (true, [])
 | .agg l => Sh.dfltL l
 | .tup l => Sh.dfltL l
 | .pl _ _ => ()
 | .fn _ l => Sh.dfltL l
 | .ifc _ a => Sh.dflt a
 | .pv _ _ => []
 | .ms _ _ => (0, 0, 0)
 | .ms0 _ _ => (0, 0)
 | .pa _ _ _ => 0
 | .arr _ => []
 | .nilp => ()
 | .nilf => ()
 | .nili => ()
 | .nilm => ()
 | .junk => ()
def Sh.dfltL : (l : List Sh) → Sh.tyL l
 |[] => ()
 |a :: l => (Sh.dflt a, Sh.dfltL l)
end
inductive OSh where
 |plain (so : Sh) (sx : List (List Sh))
 |pan (so sp : Sh) (sx : List (List Sh))
@[reducible] def OSh.ty : OSh → Type
 | .plain so sx => so.ty × Sh.tyLL sx
 | .pan so sp sx => Bool × so.ty × sp.ty × Sh.tyLL sx
def OSh.enc : (o : OSh) → o.ty → Out
 | .plain so sx, y => ⟨false, Sh.enc so y.1, Sh.encLL sx y.2⟩
 | .pan so sp sx, y => ⟨y.1, match y.1 with | true => Sh.enc sp y.2.2.1 | false => Sh.enc so y.2.1, Sh.encLL sx y.2.2.2⟩
def OSh.chk : (o : OSh) → Out → Option o.ty
 | .plain so sx, out => match out.pan with
  |true => none
  |false => match Sh.dec so out.res with
   |some y => match Sh.decLL sx out.ext with
    |some e => some (y, e)
    |none => none
   |none => none
 | .pan so sp sx, out => match out.pan with
  |true => match Sh.dec sp out.res with
   |some y => match Sh.decLL sx out.ext with
    |some e => some (true, Sh.dflt so, y, e)
    |none => none
   |none => none
  |false => match Sh.dec so out.res with
   |some y => match Sh.decLL sx out.ext with
    |some e => some (false, y, Sh.dflt sp, e)
    |none => none
   |none => none
theorem OSh.chk_enc : ∀ (o : OSh) (out : Out) (y : o.ty), o.chk out = some y → out = o.enc y
 | .plain so sx, ⟨pn, res, ext⟩, y, h => by
  unfold OSh.chk at h
  simp only at h
  split at h
  ·cases h
  ·split at h
   ·rename_i u h1
    split at h
    ·rename_i e h2
     cases h
     rw [Sh.dec_enc _ _ _ h1, Sh.decLL_enc _ _ _ h2]; rfl
    ·cases h
   ·cases h
 | .pan so sp sx, ⟨pn, res, ext⟩, y, h => by
  unfold OSh.chk at h
  simp only at h
  split at h
  ·split at h
   ·rename_i u h1
    split at h
    ·rename_i e h2
     cases h
     rw [Sh.dec_enc _ _ _ h1, Sh.decLL_enc _ _ _ h2]; rfl
    ·cases h
   ·cases h
  ·split at h
   ·rename_i u h1
    split at h
    ·rename_i e h2
     cases h
     rw [Sh.dec_enc _ _ _ h1, Sh.decLL_enc _ _ _ h2]; rfl
    ·cases h
   ·cases h

def OSh.run {R : Type} : (o : OSh) → o.ty → (Out → Option R) → Option R
 | .plain so sx, y, K => K ⟨false, Sh.enc so y.1, Sh.encLL sx y.2⟩
 | .pan so sp sx, y, K => match y.1 with
  |true => K ⟨true, Sh.enc sp y.2.2.1, Sh.encLL sx y.2.2.2⟩
  |false => K ⟨false, Sh.enc so y.2.1, Sh.encLL sx y.2.2.2⟩
theorem OSh.run_eq {R : Type} (o : OSh) (y : o.ty) (K : Out → Option R) : o.run y K = K (o.enc y) := by
 cases o with
 |plain so sx => rfl
 |pan so sp sx =>
  obtain ⟨p, y⟩ := y
  cases p <;> rfl
def inst (f0 : FuncId) (sa : List Sh) (se : List (List Sh)) (o : OSh) (v : Sh.tyL sa → Sh.tyLL se → Option o.ty) (τ : Spec) : Spec := fun R f args ext K =>
 match Nat.beq f f0 with
 |true => match Sh.decL sa args with
  |some x => match Sh.decLL se ext with
   |some e => obind (v x e) (fun y => o.run y K)
   |none => τ R f args ext K
  |none => τ R f args ext K
 |false => τ R f args ext K
theorem inst_ok {P : Program} {f0 : FuncId} {sa : List Sh} {se : List (List Sh)} {o : OSh} {v : Sh.tyL sa → Sh.tyLL se → Option o.ty} {τ : Spec}
  (h : ∀ x e y, v x e = some y → Contract P f0 (Sh.encL sa x) (Sh.encLL se e) (o.enc y)) (hτ : SpecOk P τ) : SpecOk P (inst f0 sa se o v τ) := by
 intro f R args ext k r hr
 cases hf : Nat.beq f f0 with
 |false =>
  simp only [inst, hf] at hr ⊢
  exact hτ f R args ext k r hr
 |true =>
  obtain rfl := beq_eq.1 hf
  cases hx : Sh.decL sa args with
  |none =>
   simp only [inst, hf, hx] at hr ⊢
   exact hτ f R args ext k r hr
  |some x =>
   cases he : Sh.decLL se ext with
   |none =>
    simp only [inst, hf, hx, he] at hr ⊢
    exact hτ f R args ext k r hr
   |some e =>
    simp only [inst, hf, hx, he] at hr ⊢
    cases hv : v x e with
    |none => rw [hv] at hr; cases hr
    |some y =>
     rw [hv] at hr
     refine ⟨o.enc y, ?_, (o.run_eq y k).symm.trans hr, fun R' k' => o.run_eq y k'⟩
     rw [Sh.decL_enc _ _ _ hx, Sh.decLL_enc _ _ _ he]
     exact h x e y hv
theorem auto_ok {P : Program} {Φ : Orc} (hΦ : OSound P Φ) (hp : Pick Φ) (hmix : P.follows .mixedOrders = true) {f : FuncId} {fn : Func} (hf : P.funcs[f]? = some fn) (hname : fn.name ≠ "runtime.NumGoroutine") {lv : Live} {n : Nat} {keep : Bool}
  {args : List AV} {ext : List (List AV)} {o : OSh} {y : o.ty} (h : denFn P Φ lv n fn keep args ext o.chk = some y) : Contract P f args ext (o.enc y) := by
 obtain ⟨out, h1, h2⟩ := denFn_pick hp h
 rw [← o.chk_enc out y h1]
 exact fn_ok hΦ hmix hf hname (h2 Out some)
theorem with_pick {P : Program} {σ : Spec} {T : Tab} (hmix : P.follows .mixedOrders = true) (hT : Tab.named P T = true) (h : SpecOk P σ) (n d : Nat) (hs : List Nat) : Pick (with_ P σ T n d hs) :=
 (inl_ok hmix hT (h.pick []) (h.sound []) d hs).1
end Go.Den
namespace Go.Den
mutual
def DV.wf : DV → Bool
 | .val _ => true
 | .sl nl _ rows => (!nl || rows.isEmpty) && Rows.wf rows
def Rowwf : List DV → Bool
 |[] => true
 |d :: r => DV.wf d && Rowwf r
def Rows.wf : List (List DV) → Bool
 |[] => true
 |r :: l => Rowwf r && Rows.wf l
end
mutual
theorem RepD.wf {M : Mm} : ∀ {d v}, RepD M d v → DV.wf d = true
 |_, _, .val v h => rfl
 |_, _, .nil ks => rfl
 |_, _, .sl ks rows a c h1 h2 h3 => by simp only [DV.wf, Bool.not_false, Bool.true_or, Bool.true_and]; exact RowsAt.wf h3
theorem RowsAt.wf {M : Mm} : ∀ {b o ks rows}, RowsAt M b o ks rows → Rows.wf rows = true
 |_, _, _, _, .nil b o ks => rfl
 |_, _, _, _, .cons b o ks row rows h1 h2 h3 => by simp only [Rows.wf, CellsAt.wf h2, RowsAt.wf h3, Bool.and_self]
theorem CellsAt.wf {M : Mm} : ∀ {b o r}, CellsAt M b o r → Rowwf r = true
 |_, _, _, .nil b o => rfl
 |_, _, _, .cons b o d v r h1 h2 h3 => by simp only [Rowwf, RepD.wf h2, CellsAt.wf h3, Bool.and_self]
end
mutual
def AV.wf : AV → Bool
 | .sl nl ks rows _ => DV.wf (.sl nl ks rows)
 | .agg cs => AV.wfL cs
 |_ => true
def AV.wfL : List AV → Bool
 |[] => true
 |a :: l => AV.wf a && AV.wfL l
end
mutual
theorem Rep.wf {x : X} : ∀ {a v}, Rep x a v → AV.wf a = true
 |_, _, .dv d v hd => rfl
 |_, _, .sl n kd rows r v hd hr => RepD.wf hd
 |_, _, .agg cs vs hl => RepL.wf hl
 |_, _, .tup cs vs hl => rfl
 |_, _, .pl k off b hk => rfl
 |_, _, .pv kd row off b o h1 h2 => rfl
 |_, _, .fn f cs vs hl => rfl
 |_, _, .ifc t a v ha => rfl
 |_, _, .ms k kd off n c b o c' hk g1 g2 g3 => rfl
 |_, _, .pa k kd i j b hk => rfl
 |_, _, .junk v => rfl
theorem RepL.wf {x : X} : ∀ {l vs}, RepL x l vs → AV.wfL l = true
 |_, _, .nil => rfl
 |_, _, .cons a v l vs ha hl => by simp only [AV.wfL, Rep.wf ha, RepL.wf hl, Bool.and_self]
end
theorem wrap_small {z : Int} (h1 : -4611686018427387904 ≤ z) (h2 : z ≤ 4611686018427387904) : IntKind.wrap IntKind.i64 z = z := wrap_i64 (by omega) (by omega)
end Go.Den
namespace Go.Den
def Fsl (nl : Bool) (ks : List Kd) (rows : Rows) : Prop := rows.length ≤ reachBytes ∧ (nl = true → rows = []) ∧ RowsFine ks rows ∧ rows.length * kbytes ks ≤ reachBytes
theorem fine_at {r : Row} (h : RowFine r) (j : Nat) : (Row.at r j).Fine ∨ Row.at r j = .val undef := by
 induction r generalizing j with
 |nil => right; rfl
 |cons d r ih =>
  cases j with
  |zero => left; exact h.1
  |succ j => exact ih h.2 j
theorem fine_S {r : Row} {j : Nat} (h : RowFine r) : (Row.S r j).size ≤ reachBytes := by
 unfold Row.S
 rcases fine_at h j with hj | hj
 ·generalize Row.at r j = d at hj
  cases d with
  |val v =>
   cases v <;> first | exact hj | exact Nat.zero_le _
  |sl n k rows => exact Nat.zero_le _
 ·rw [hj]; exact Nat.zero_le _
theorem kd_at : ∀ {ks : List Kd} {r : Row} {j : Nat} {k : Kd}, Row.ofKds ks r = true → ks[j]? = some k → DV.ofKd k (Row.at r j) = true
 |[], r, j, k, _, h => by simp at h
 |k0 :: ks, [], j, k, h, _ => by simp [Row.ofKds] at h
 |k0 :: ks, d :: r, 0, k, h, hk => by
  simp only [Row.ofKds, Bool.and_eq_true] at h
  simp only [List.getElem?_cons_zero, Option.some.injEq] at hk
  subst hk; exact h.1
 |k0 :: ks, d :: r, j + 1, k, h, hk => by
  simp only [Row.ofKds, Bool.and_eq_true] at h
  simp only [List.getElem?_cons_succ] at hk
  exact kd_at (r := r) h.2 hk
theorem fine_I {ks : List Kd} {r : Row} {j : Nat} {k : IntKind} (ho : Row.ofKds ks r = true) (h : RowFine r) (hk : ks[j]? = some (.i k)) : (Lit.int k (Row.I r j)).wf = true := by
 have h1 := kd_at ho hk
 unfold Row.I
 rcases fine_at h j with hj | hj
 ·generalize Row.at r j = d at hj h1
  cases d with
  |val v =>
   cases v <;> first | (cases h1; done) | skip
   rename_i l n
   simp only [DV.ofKd, decide_eq_true_eq] at h1
   subst h1; exact hj
  |sl n k rows => cases h1
 ·rw [hj] at h1; cases h1
theorem fine_sl {ks : List Kd} {r : Row} {j : Nat} {kd : List Kd} (ho : Row.ofKds ks r = true) (h : RowFine r) (hk : ks[j]? = some (.sl kd)) : Fsl (Row.N r j) kd (Row.R r j) := by
 have h1 := kd_at ho hk
 unfold Row.N Row.R
 rcases fine_at h j with hj | hj
 ·generalize Row.at r j = d at hj h1
  cases d with
  |val v => cases v <;> cases h1
  |sl n k rows =>
   simp only [DV.ofKd] at h1
   obtain rfl := Kd.sameL_eq h1
   exact hj
 ·rw [hj] at h1; cases h1
theorem rowsFine_mem {ks : List Kd} {rows : Rows} (h : RowsFine ks rows) : ∀ {r}, r ∈ rows → Row.ofKds ks r = true ∧ RowFine r := by
 induction rows with
 |nil => intro r hr; cases hr
 |cons a l ih =>
  intro r hr
  rcases List.mem_cons.1 hr with rfl | hr
  ·exact ⟨h.1, h.2.1⟩
  ·exact ih h.2.2 hr
theorem rowsFine_get {ks : List Kd} {rows : Rows} (h : RowsFine ks rows) {j : Nat} (hj : j < rows.length) : Row.ofKds ks rows[j] = true ∧ RowFine rows[j] := rowsFine_mem h (List.getElem_mem hj)
theorem lit_i64 {z : Int} (h : (Lit.int .i64 z).wf = true) : -9223372036854775808 ≤ z ∧ z < 9223372036854775808 := by
 simp only [Lit.wf, Bool.and_eq_true, decide_eq_true_eq] at h
 have h1 : IntKind.min .i64 = -9223372036854775808 := by decide
 have h2 : IntKind.max .i64 = 9223372036854775807 := by decide
 omega
end Go.Den
namespace Go.Den
variable {R : Type} {res : R}

theorem Inv.setD {e : Env} {x : X} {w : World} {m : Mem} (h : Inv e x w m) (D : List Deferred) : Inv { e with D := D } x w m :=
 ⟨h.sub, h.slot, h.inj, h.tok, h.tokslot, h.toktok, h.os, h.tape, h.output, h.size, h.old, h.mono, h.new, h.ext, h.low, ⟨h.more.room, h.more.ext, h.more.M0, h.more.vir, h.more.drawn⟩, h.glob⟩

theorem Inv.callee {e : Env} {x : X} {w : World} {m : Mem} (hI : Inv e x w m) {ks : List Nat} {ext : List (List AV)} (hnd : ks.Nodup) (hext : cellsOf m ks ks = some ext) (D : List Deferred) :
  Inv ⟨e.P, w, x.callee ks, ks.filterMap x.loc, D, []⟩ (x.callee ks) w (zipExt 1000 ext) :=
 hI.enter hnd hext D (ktk := fun _ => none) (L := []) (entry_pass hext _) (fun j a n c sz hj => by cases hj) (fun j j' a n c sz a' n' c' sz' hj => by cases hj) (fun b hb => by cases hb)

theorem Inv.outer {e : Env} {x : X} {w : World} {m : Mem} (h : Inv e x w m) {ks : List Nat} {ext : List (List AV)} (hext : cellsOf m ks ks = some ext) {D : List Deferred} {xc : X} {w' : World} {m' : Mem}
  (hc : Inv ⟨e.P, w, x.callee ks, ks.filterMap x.loc, D, []⟩ xc w' m') : Inv e { M := xc.M, loc := x.loc, tk := fun _ => none, cap := x.cap, M0 := x.M0 } w' (zipExt 1000 []) := by
 obtain ⟨hl1, hget⟩ := cellsOf_get hext
 refine ⟨hc.sub, fun k cs hk => by simp [zipExt, lookup] at hk, fun k k' cs cs' b hk => by simp [zipExt, lookup] at hk, fun k v sz hk => by simp at hk, fun k a n c sz j cs hk => by simp at hk, fun k k' a n c sz a' n' c' sz' hk => by simp at hk,
  hc.os.trans h.os, hc.tape.trans h.tape, hc.output.trans h.output, Nat.le_trans h.size hc.size, ?_, h.mono.trans hc.mono, ?_, h.ext, h.low, ⟨fun k b cs hk => by simp [zipExt, lookup] at hk, h.more.ext, h.more.M0, fun k b cs arr ty hk => by simp [zipExt, lookup] at hk, Nat.le_trans h.more.drawn hc.more.drawn⟩, h.glob⟩
 ·intro b hb hbE hbL
  have hnE : b ∉ ks.filterMap x.loc := by
   intro hE
   obtain ⟨k, hk1, hk2⟩ := List.mem_filterMap.1 hE
   obtain ⟨i, hi⟩ := List.getElem?_of_mem hk1
   obtain ⟨cs, hcs, _⟩ := hget i k hi
   obtain ⟨b', _, _, q1, q2, _⟩ := h.slot k cs hcs
   rw [hk2] at q1
   obtain rfl := Option.some.inj q1
   rcases q2 with q2 | q2
   ·omega
   ·exact hbE q2.1
  have := hc.old b (by have := h.size; simp only; omega) hnE
  rw [this (by simp)]; exact h.old b hb hbE hbL
 ·intro b o v hv
  rcases hc.new b o v hv with h1 | h1 | h1
  ·exact h.new b o v h1
  ·right; left; simp only at h1; have := h.size; omega
  ·cases h1

mutual
theorem Rep.loose {x x' : X} (hM : x'.M = x.M) : ∀ {a v}, Rep x a v → a.loose = true → Rep x' a v
 |_, _, .dv d v h, _ => .dv d v (by rw [hM]; exact h)
 |_, _, .sl n kd rows r v h hr, ht => by
  refine .sl n kd rows r v (by rw [hM]; exact h) ?_
  cases r with
  |no => trivial
  |ex => exact hr
  |tok k => simp [AV.loose] at ht
  |old => simp [AV.loose] at ht
 |_, _, .agg cs vs h, ht => .agg cs vs (RepL.loose hM h (by simpa [AV.loose] using ht))
 |_, _, .tup cs vs h, ht => .tup cs vs (RepL.loose hM h (by simpa [AV.loose] using ht))
 |_, _, .pl .., ht => by simp [AV.loose] at ht
 |_, _, .pv .., ht => by simp [AV.loose] at ht
 |_, _, .fn .., ht => by simp [AV.loose] at ht
 |_, _, .ifc .., ht => by simp [AV.loose] at ht
 |_, _, .ms .., ht => by simp [AV.loose] at ht
 |_, _, .pa .., ht => by simp [AV.loose] at ht
 |_, _, .junk v, _ => .junk v
theorem RepL.loose {x x' : X} (hM : x'.M = x.M) : ∀ {l vs}, RepL x l vs → AV.looseL l = true → RepL x' l vs
 |_, _, .nil, _ => .nil
 |_, _, .cons a v l vs ha hl, ht => by
  simp only [AV.looseL, Bool.and_eq_true] at ht
  exact .cons a v l vs (Rep.loose hM ha ht.1) (RepL.loose hM hl ht.2)
end

theorem RepL.pls {x x' : X} (hl : ∀ k, 1000 ≤ k → x'.loc k = x.loc k) : ∀ {l vs}, RepL x l vs → allPl l = true → RepL x' l vs
 |_, _, .nil, _ => .nil
 |_, _, .cons a v l vs ha hls, ht => by
  simp only [allPl, Bool.and_eq_true] at ht
  refine .cons a v l vs ?_ (RepL.pls hl hls ht.2)
  cases ha with
  |pl k off b hb => exact .pl k off b (by rw [hl k (by simpa [AV.isPl] using ht.1)]; exact hb)
  |_ => simp [AV.isPl] at ht

def Left (e : Env) (ext : List (List AV)) (K : Out → Option R) (res : R) (w : World) (pan : Bool) (v : Value) : Prop :=
 ∃ out x', K out = some res ∧ out.pan = pan ∧ out.ext.length = ext.length ∧ Inv e x' w (zipExt 1000 out.ext) ∧ Rep x' out.res v

theorem fin_sound {P : Program} {e : Env} (hP : e.P = P) {fn : Func} {keep : Bool} {ext : List (List AV)} {K : Out → Option R} {ex : Ex} {E : Exit} {s : St} {x : X} {w : World} {a : Act}
  (h : fin P fn keep ext K ex s = some res) (hs : StOk e x w s a) (hex : ExRel x ex E) :
  match E with
  | .normal | .ret => ∃ v, (results fn a.tmps).run P w = .ok v w ∧ Left e ext K res w false v
  | .panic ch => ∃ v, ch = [{ v := v, recovered := false }] ∧ Left e ext K res w true v
  |_ => False := by
 unfold fin at h
 cases hex with
 |exit id => simp at h
 |pan v u hv =>
  simp only at h
  split at h
  ·rename_i r hr
   obtain ⟨e1, x', h4, h5⟩ := exit_sound (keep := false) (r := v.bare) hs.inv (.cons v u [] [] hv .nil) rfl hr
   exact ⟨u, rfl, _, x', h, rfl, e1, h4, by simpa using h5⟩
  ·cases h
 |normal =>
  simp only at h
  obtain ⟨avs, us, h1, h2, h3⟩ := res_sound hP hs h
  split at h1
  ·rename_i r exs hr' hexs
   obtain ⟨e1, x', h4, h5⟩ := exit_sound hs.inv h2 hr' hexs
   refine ⟨_, ?_, _, x', h1, rfl, e1, h4, h5⟩
   unfold results
   simp only [Sem.run_bind, Array.mapM_eq_mapM_toList, Sem.run_map]
   erw [h3]
   rfl
  ·cases h1
 |ret =>
  simp only at h
  obtain ⟨avs, us, h1, h2, h3⟩ := res_sound hP hs h
  split at h1
  ·rename_i r exs hr' hexs
   obtain ⟨e1, x', h4, h5⟩ := exit_sound hs.inv h2 hr' hexs
   refine ⟨_, ?_, _, x', h1, rfl, e1, h4, h5⟩
   unfold results
   simp only [Sem.run_bind, Array.mapM_eq_mapM_toList, Sem.run_map]
   erw [h3]
   rfl
  ·cases h1

inductive ModeOk (x : X) : AV → FrameMode → FrameMode → Prop
 |ret : ModeOk x (.dv (.val .nilIface)) .returning .returning
 |pan (a : AV) (v : Value) : Rep x a v → ModeOk x a (.panicking [{ v := v, recovered := false }]) (.panicking [{ v := v, recovered := true }])

theorem run_recover {P : Program} {o : Oper} (h : isRecover o = true) (ρ : Operand → Value) (w : World) : o.guard = none ∧ (execOp ρ o).run P w = .ok .recover w := by
 unfold isRecover at h
 split at h
 ·rename_i c ho hg
  refine ⟨hg, ?_⟩
  split at h
  ·rename_i hc ha
   have ha' : c.args = #[] := by cases hx : c.args; simp [hx] at ha; simp [ha]
   simp only [execOp, ho, resolve, hc, Sem.run_bind, Sem.run_pure, Result.andThen_ok, invoke, builtin, ha']
  ·cases h
 ·cases h

theorem wpS_recover {P : Program} {id : Nat} {ops : Array Oper} {o : Oper} {Q : Exit → Act → List Frame → World → Prop} {a : Act} {c₀ : Frame} {cs : List Frame} {w : World} (h0 : ops[0]? = some o) (hr : isRecover o = true)
  {v : Value} {u' : FrameMode} (hrec : recoverD (c₀ :: cs) = some (v, { c₀ with mode := u' } :: cs) ∨ recoverD (c₀ :: cs) = none ∧ v = .nilIface ∧ { c₀ with mode := u' } = c₀)
  (h : wpOps P ops (fun e a w => Q e a ({ c₀ with mode := u' } :: cs) w) (List.range' 1 (ops.size - 1)) (a.put o.dst v) w) : (Code.region id ops false).wpS P Q a (c₀ :: cs) w := by
 intro b k hb hro
 have hsz : 0 < ops.size := (Array.getElem?_eq_some_iff.1 h0).1
 have hrange : List.range ops.size = 0 :: List.range' 1 (ops.size - 1) := by
  rw [List.range_eq_range']
  obtain ⟨n, hn⟩ : ∃ n, ops.size = n + 1 := ⟨ops.size - 1, by omega⟩
  rw [hn, List.range'_succ]; rfl
 obtain ⟨hg, hrun⟩ := run_recover (P := P) hr a.eval w
 have hw : Region.wanted o (yielded ops a.tmps) = true := by simp [Region.wanted, hg]
 obtain ⟨e, a', w', hq, harr⟩ := wp_ops _ _ w h b k ({ c₀ with mode := u' } :: cs)
 refine ⟨e, a', _, w', hq, .of_steps (.head step_region (.one (step_lone_go ?_))) harr⟩
 rw [hrange]
 have hstep := stepG_op (P := P) (b := b) (k := k) (cs := c₀ :: cs) (w := w) (rest := List.range' 1 (ops.size - 1)) h0 hw
 have hfin : (b.at a (.inRegion ops (0 :: List.range' 1 (ops.size - 1)) :: k)).finish v = b.at (a.put o.dst v) (.inRegion ops (List.range' 1 (ops.size - 1)) :: k) := by
  rw [Frame.finish_at, h0]; rfl
 have hk : (b.at a (.inRegion ops (0 :: List.range' 1 (ops.size - 1)) :: k)).kind = .deferred := hb
 have htr := tryRecover_deferred hk (c₀ :: cs)
 rw [hstep, ← hfin]
 simp only [Frame.at] at htr ⊢
 rcases hrec with hrec | ⟨hrec, rfl, hc⟩
 ·simp [stepG.apply, hrun, htr, hrec]
 ·rw [hc]
  simp [stepG.apply, hrun, htr, hrec]

theorem clo_sound {P : Program} {Φ : Orc} (hΦ : OSound P Φ) (hmix : P.follows .mixedOrders = true) {f : FuncId} {fn : Func} (hf : P.funcs[f]? = some fn) {lv : Live} {n : Nat} {rv : AV} {args : List AV} {ext : List (List AV)} {K : Out → Option R}
  (h : denClo P Φ lv n fn rv args ext K = some res) {w : World} {x : X} {E : List Nat} {vs : List Value} (hI : Inv ⟨P, w, x, E, [], []⟩ x w (zipExt 1000 ext)) (hr : RepL x args vs) {u u' : FrameMode} (hu : ModeOk x rv u u') :
  CallsD P f ⟨vs⟩ u w fun en m w' => m = u' ∧ ∃ pan v, en = (if pan then .panicked [{ v, recovered := false }] else .returned v) ∧ Left ⟨P, w, x, E, [], []⟩ ext K res w' pan v := by
 unfold denClo at h
 split at h
 ·rename_i id ops b hb
  split at h
  ·rename_i o os hops
   split at h
   ·rename_i hc
    simp only [Bool.and_eq_true] at hc
    obtain ⟨hrec, hle⟩ := hc
    refine callsD_of_wpS hf hb ?_
    intro c₀ cs hm
    refine wpS_seq ?_
    have h0 : ops[0]? = some o := by rw [← Array.getElem?_toList, hops]; rfl
    have hval : ∃ v, (recoverD (c₀ :: cs) = some (v, { c₀ with mode := u' } :: cs) ∨ recoverD (c₀ :: cs) = none ∧ v = .nilIface ∧ { c₀ with mode := u' } = c₀) ∧ Rep x rv v := by
     cases hu with
     |ret => exact ⟨.nilIface, .inr ⟨by simp [recoverD, hm], rfl, by rw [← hm]⟩, rep_val x rfl⟩
     |pan a v hv => exact ⟨v, .inl (by simp [recoverD, hm]), hv⟩
    obtain ⟨v, hrv, hv⟩ := hval
    refine wpS_recover h0 hrec hrv ?_
    have hosz : ops.size - 1 = os.length := by rw [← Array.length_toList, hops]; simp
    rw [hosz]
    have hops' : ops.toList = o :: os := hops
    rw [St.force_eq, ← hops'] at h
    refine reg_sound (e := ⟨P, w, x, E, [], []⟩) hΦ [] (.inr fun _ => rfl) ops (k := fun s => s.force fun s => den P Φ lv n b (fin P fn false ext K) s) (kp := fun v s => fin P fn false ext K (.pan v) s) ?_ ?_ os 1 ?_ _ x w _ ?_ h
    ·intro s1 x1 w1 a1 h1 hs1
     rw [St.force_eq] at h1
     refine wpS_of_wp ?_
     refine den_sound (e := ⟨P, w, x, E, [], []⟩) hΦ (fun id ops K' Q hK s x w a hs hr => draw_sound hΦ hmix hK hs hr) lv (.inl rfl) n b _ _ ?_ s1 x1 w1 a1 hs1 h1
     intro ex En s2 x2 w2 a2 hk hs2 hex
     have := fin_sound (e := ⟨P, w, x, E, [], []⟩) rfl hk hs2 hex
     cases hex with
     |exit id => exact this.elim
     |pan v u hv => 
      obtain ⟨z, hz, hl⟩ := this
      refine ⟨hs2.defers, u', rfl, rfl, true, z, ?_, hl⟩
      rw [hz]; rfl
     |normal =>
      obtain ⟨z, hz, hl⟩ := this
      exact ⟨hs2.defers, u', rfl, z, hz, rfl, false, z, rfl, hl⟩
     |ret =>
      obtain ⟨z, hz, hl⟩ := this
      exact ⟨hs2.defers, u', rfl, z, hz, rfl, false, z, rfl, hl⟩
    ·intro v1 s1 x1 w1 a1 u1 h1 hs1 hv1
     have := fin_sound (e := ⟨P, w, x, E, [], []⟩) rfl h1 hs1 (.pan v1 u1 hv1)
     obtain ⟨z, hz, hl⟩ := this
     refine ⟨hs1.defers, u', rfl, rfl, true, z, ?_, hl⟩
     rw [hz]; rfl
    ·intro j
     rw [← Array.getElem?_toList, hops, Nat.add_comm]; simp
    ·refine ⟨hI, ?_, by cases o.dst <;> rfl⟩
     refine RepL.setT ?_ o.dst hv
     have h1 := hr.length
     have := hr.append (RepL.junks x (fn.ntmps - args.length) undef)
     simpa [h1] using this
   ·cases h
  ·cases h
 ·cases h

theorem deferOf_spec {c : Code} {o1 : Oper} {f : Operand} (h : deferOf c = some (o1, f)) : ∃ id o2 cl, c = .region id #[o1, o2] false ∧ o1.guard = none ∧ o2.guard = none ∧ o2.dst = none ∧ o2.op = .defer cl ∧ cl.callee = .value f ∧ cl.args = #[] := by
 unfold deferOf at h
 split at h
 ·rename_i id ops
  split at h
  ·rename_i p1 p2 hl
   split at h
   ·rename_i cl h1 h2 h3 h4
    split at h
    ·rename_i g hc ha
     cases h
     have ha' : cl.args = #[] := by cases hx : cl.args; simp [hx] at ha; simp [ha]
     exact ⟨id, p2, cl, by rw [show ops = #[o1, p2] from by apply Array.ext'; rw [hl]], h1, h2, h3, h4, hc, ha'⟩
    ·cases h
   ·cases h
  ·cases h
 ·cases h

theorem ahead_sound {e : Env} (heL : e.L = []) {Φ : Orc} (hΦ : OSound e.P Φ) (hmix : e.P.follows .mixedOrders = true) {lv : Live} {n : Nat} {kD : FuncId → List AV → Code → St → Option R} {K : Ex → St → Option R} {Q : Exit → Act → World → Prop} (hK : KOk e K res Q) (hD0 : e.D = [])
  (hkD : ∀ g caps b s x w a vs, kD g caps b s = some res → Inv e x w s.m → RepL x s.t a.tmps.toList → RepL x caps vs → a.defers = [{ target := .fn (.func g) ⟨vs⟩, args := #[] }] → b.wp e.P Q a w) :
  ∀ (c : Code) (s : St) (x : X) (w : World) (a : Act), StOk e x w s a → ahead e.P Φ lv n kD K c s = some res → c.wp e.P Q a w := by
 intro c
 induction c with
 |seq c d ihc ihd =>
  intro s x w a hs h
  simp only [ahead] at h
  split at h
  ·rename_i o1 f hdo
   obtain ⟨id, o2, cl, rfl, g1, g2, g3, g4, g5, g6⟩ := deferOf_spec hdo
   refine Go.wp_seq (wp_region ?_)
   show wpOps e.P #[o1, o2] _ [0, 1] a w
   rw [wpOps_cons]
   simp only [wpOp, List.getElem?_toArray, List.getElem?_cons_zero]
   rw [if_pos (by simp [Region.wanted, g1])]
   refine .inl (step_sound hΦ hs h ?_ ?_)
   ·intro s' x' w' a' h1 hs'
    rw [wpOps_cons]
    simp only [wpOp, List.getElem?_toArray, List.getElem?_cons_succ, List.getElem?_cons_zero]
    rw [if_pos (by simp [Region.wanted, g2])]
    split at h1
    ·rename_i g caps hg
     have hrf := evT_rep hs'.tmps hg
     generalize hz : a'.eval f = z at hrf
     cases hrf with
     |fn _ _ cv hcv =>
     left
     unfold Oper.wp
     have hrun : (execOp a'.eval o2).run e.P w' = .ok (.defer { target := .fn (.func g) ⟨cv⟩, args := #[] }) w' := by
      simp [execOp, g4, resolve, g5, g6, hz, Deferred.ofValue]
     rw [hrun, Oper.upon_defer, g3]
     show d.wp e.P Q _ w'
     refine hkD g caps d s' x' w' _ cv h1 hs'.inv hs'.tmps hcv ?_
     show _ :: a'.defers = _
     rw [hs'.defers, hD0]
    ·cases h1
   ·intro v s' x' w' a' u h1 hs' hr
    exact hK _ _ s' x' w' a' h1 hs' (.pan v u hr)
  ·refine Go.wp_seq (den_sound hΦ (fun id ops K' Q hK s x w a hs hr => draw_sound hΦ hmix hK hs hr) lv (.inl heL) n c _ _ ?_ s x w a hs h)
   intro ex E s' x' w' a' hk hs' hex
   cases hex with
   |normal => exact ihd s' x' w' a' hs' hk
   |exit id => exact hK _ _ s' x' w' a' hk hs' (.exit id)
   |ret => exact hK _ _ s' x' w' a' hk hs' .ret
   |pan v u hr => exact hK _ _ s' x' w' a' hk hs' (.pan v u hr)
 |_ => intro s x w a hs h; simp [ahead] at h

theorem run_invoke {P : Program} {g : FuncId} {gn : Func} (hg : P.funcs[g]? = some gn) (hb : gn.body.isSome = true) (hn : gn.name ≠ "runtime.NumGoroutine") (vs : List Value) (w : World) : (invoke (.fn (.func g) ⟨vs⟩) #[]).run P w = .ok (.enter g ⟨vs⟩) w := by
 have hb' : gn.body.isNone = false := by cases hbb : gn.body <;> simp [hbb] at hb ⊢
 simp only [invoke, callFunc, Sem.run_bind, Result.andThen_ok, run_program, hg]
 rw [if_neg (by simpa using hn), if_neg (by simp [hb'])]
 simp only [Sem.run_pure]
 congr 2
 apply Array.ext'
 simp

theorem leaveU_sound {P : Program} {Φ : Orc} (hΦ : OSound P Φ) (hmix : P.follows .mixedOrders = true) {e : Env} (hP : e.P = P) {fn g : Func} {gid : FuncId} (hg : P.funcs[gid]? = some g) (hgb : g.body.isSome = true) (hgn : g.name ≠ "runtime.NumGoroutine") {lvC : Live} {n : Nat} {caps : List AV} {K : Out → Option R}
  {rv : List Nat → AV} {s : St} {x : X} {w : World} {tmps : Array Value} {vs : List Value} {u u' : FrameMode} (h : leaveU P Φ lvC n fn g gid caps K rv s = some res) (hI : Inv e x w s.m) (hT : RepL x s.t tmps.toList) (hcaps : RepL x caps vs)
  (hu : ∀ ks, ModeOk (x.callee ks) (rv ks) u u') (hset : settle u' = .returning) (hne : u ≠ .run) {Rr : Ending → World → Prop}
  (hR : ∀ w' v out x', K out = some res → out.pan = false → out.ext = [] → Inv e x' w' (zipExt 1000 []) → (∀ x'' : X, x''.M = x'.M → Rep x'' out.res v) → Rr (.returned v) w') :
  Leaves P fn tmps Rr [{ target := .fn (.func gid) ⟨vs⟩, args := #[] }] u w := by
 subst hP
 unfold leaveU at h
 simp only [forceN_eq] at h
 generalize hks : dedup (AV.slots caps) = ks at h
 have hnd : ks.Nodup := by rw [← hks]; exact dedup_nodup _
 split at h
 ·rename_i ext hext
  refine leaves_cons hne (run_invoke hg hgb hgn vs w) ?_
  refine (clo_sound hΦ hmix hg h (hI.callee hnd hext []) (by simpa using hcaps.pass (ks := ks)) (hu ks)).mono ?_
  rintro en m w' ⟨rfl, pan, v, rfl, out, xc, hk, hpan, hlen, hc, hrep⟩
  simp only [hpan] at hk
  cases pan with
  |true => simp at hk
  |false =>
   simp only at hk
   rw [St.force_eq] at hk
   obtain ⟨x', ha⟩ := after_call hI hnd hext hlen hc hrep none
   have hs' : StOk { e with D := [] } x' w' (s.apply none (callEff ks none out)) { tmps := tmps, defers := [] } := by
    have hs0 : StOk { e with D := [] } x w s { tmps := tmps, defers := [] } := ⟨hI.setD [], hT, rfl⟩
    have ha' : After { e with D := [] } x x' w' s.m v (callEff ks none out) := by
     revert ha
     unfold After
     split
     ·rintro ⟨p1, p2, p3⟩; exact ⟨p1, p2.setD [], p3⟩
     ·rintro ⟨p1, p2, p3⟩; exact ⟨p1, p2.setD [], p3⟩
    exact hs0.apply ha' none
   obtain ⟨avs, us, h1, h2, h3⟩ := res_sound (e := { e with D := [] }) rfl hs' hk
   split at h1
   ·rename_i r hr'
    split at h1
    ·rename_i hlo
     obtain ⟨x2, h4, h5⟩ := canon_sound (m' := zipExt 1000 []) hs'.inv h2 hr' (fun k cs hk => by simp [zipExt, lookup] at hk)
     simp only [Bool.false_eq_true, if_false]
     rw [hset]
     refine ⟨_, ?_, hR w' _ ⟨false, r, []⟩ x2 h1 rfl rfl (h4.setD e.D) (fun x'' hM => h5.loose hM hlo)⟩
     unfold results
     simp only [Sem.run_bind, Array.mapM_eq_mapM_toList, Sem.run_map]
     erw [h3]
     rfl
    ·cases h1
   ·cases h1
 ·cases h

theorem fnD_sound {P : Program} {Φ : Orc} (hΦ : OSound P Φ) (hmix : P.follows .mixedOrders = true) {f : FuncId} {fn : Func} (hf : P.funcs[f]? = some fn) (hname : fn.name ≠ "runtime.NumGoroutine") {gid : FuncId} {g : Func} (hg : P.funcs[gid]? = some g)
  (hgb : g.body.isSome = true) (hgn : g.name ≠ "runtime.NumGoroutine") {lv lvC : Live} {n : Nat} {args : List AV} {K : Out → Option R} {out : Out} (hKo : ∀ o, K o = some res → o = out) (h : denFnD P Φ lv n fn g gid lvC args K = some res) : Contract P f args [] out := by
 unfold denFnD at h
 split at h
 ·cases h
 ·rename_i c hc
  split at h
  ·rename_i hle
   refine ⟨⟨fn, hf, by simp [hc], hname⟩, ?_⟩
   simp only [Bool.and_eq_true, Bool.not_eq_true'] at hle
   intro w x E L vs htk hI hr
   obtain ⟨rfl, _⟩ := htk (by rw [hle.2]; rfl)
   replace hle := hle.1
   refine calls_of_wp_defers hf hc ?_
   refine ahead_sound (e := ⟨P, w, x, E, [], []⟩) rfl hΦ hmix (K := fin P fn false [] K) ?_ rfl ?_ c _ x w _ ⟨hI, ?_, rfl⟩ h
   ·intro ex En s1 x1 w1 a1 hk hs1 hex
    have := fin_sound (e := ⟨P, w, x, E, [], []⟩) rfl hk hs1 hex
    have hd : a1.defers = [] := hs1.defers
    cases hex with
    |exit id => exact this.elim
    |pan v u hv =>
     obtain ⟨z, hz, o', x', h1, h2, h3, h4, h5⟩ := this
     obtain rfl := hKo _ h1
     show Leaves _ _ _ _ a1.defers _ _
     rw [hd, hz]
     exact ⟨x', z, h3, by rw [h2]; rfl, h4, h5⟩
    |normal =>
     obtain ⟨z, hz, o', x', h1, h2, h3, h4, h5⟩ := this
     obtain rfl := hKo _ h1
     show Leaves _ _ _ _ a1.defers _ _
     rw [hd]
     exact ⟨z, hz, x', z, h3, by rw [h2]; rfl, h4, h5⟩
    |ret =>
     obtain ⟨z, hz, o', x', h1, h2, h3, h4, h5⟩ := this
     obtain rfl := hKo _ h1
     show Leaves _ _ _ _ a1.defers _ _
     rw [hd]
     exact ⟨z, hz, x', z, h3, by rw [h2]; rfl, h4, h5⟩
   ·intro g' caps b s1 x1 w1 a1 cv hk hI1 hT1 hcaps hdef
    simp only [forceN_eq, AV.forceL_eq, St.force_eq] at hk
    generalize hks : dedup (AV.slots s1.t) = ks at hk
    have hnd : ks.Nodup := by rw [← hks]; exact dedup_nodup _
    split at hk
    ·rename_i ext hcond hext
     simp only [Bool.and_eq_true, beq_eq] at hcond
     obtain ⟨rfl, hpl⟩ := hcond
     let D : List Deferred := [{ target := .fn (.func g') ⟨cv⟩, args := #[] }]
     have hcal := hI1.callee hnd hext D
     refine den_sound (e := ⟨P, w1, x1.callee ks, ks.filterMap x1.loc, D, []⟩) hΦ (fun id ops K' Q hK s x w a hs hr => draw_sound hΦ hmix hK hs hr) lv (.inl rfl) n b _ _ ?_ _ (x1.callee ks) w1 a1 ⟨hcal, hT1.pass, hdef⟩ hk
     have hcp : RepL (x1.callee ks) (AV.passL ks caps) cv := hcaps.pass
     intro ex En s2 x2 w2 a2 hk2 hs2 hex
     have hcp2 : RepL x2 (AV.passL ks caps) cv := hcp.pls (fun k hk => hs2.inv.ext k hk) hpl
     have hd2 : a2.defers = D := hs2.defers
     have hend : ∀ w' v out' x', K out' = some res → out'.pan = false → out'.ext = [] → Inv ⟨P, w1, x1.callee ks, ks.filterMap x1.loc, D, []⟩ x' w' (zipExt 1000 []) → (∀ x'' : X, x''.M = x'.M → Rep x'' out'.res v) →
       ∃ x' v', out.ext.length = ([] : List (List AV)).length ∧ (Ending.returned v = if out.pan then .panicked [{ v := v', recovered := false }] else .returned v') ∧ Inv ⟨P, w, x, E, [], []⟩ x' w' (zipExt 1000 out.ext) ∧ Rep x' out.res v' := by
      intro w' v out' x' ho hp he hi hrep
      obtain rfl := hKo _ ho
      refine ⟨{ M := x'.M, loc := x1.loc, tk := fun _ => none, cap := x1.cap, M0 := x1.M0 }, v, by rw [he], by rw [hp]; rfl, ?_, hrep _ rfl⟩
      rw [he]; exact hI1.outer hext hi
     unfold leaveE at hk2
     cases hex with
     |exit id => simp at hk2
     |pan v u hv =>
      simp only at hk2
      show Leaves _ _ _ _ a2.defers _ _
      rw [hd2]
      exact leaveU_sound hΦ hmix (e := ⟨P, w1, x1.callee ks, ks.filterMap x1.loc, D, []⟩) rfl hg hgb hgn hk2 hs2.inv hs2.tmps hcp2 (fun ks' => .pan _ u hv.pass) rfl (by simp) hend
     |normal =>
      simp only at hk2
      show Leaves _ _ _ _ a2.defers _ _
      rw [hd2]
      exact leaveU_sound hΦ hmix (e := ⟨P, w1, x1.callee ks, ks.filterMap x1.loc, D, []⟩) rfl hg hgb hgn hk2 hs2.inv hs2.tmps hcp2 (fun ks' => .ret) rfl (by simp) hend
     |ret =>
      simp only at hk2
      show Leaves _ _ _ _ a2.defers _ _
      rw [hd2]
      exact leaveU_sound hΦ hmix (e := ⟨P, w1, x1.callee ks, ks.filterMap x1.loc, D, []⟩) rfl hg hgb hgn hk2 hs2.inv hs2.tmps hcp2 (fun ks' => .ret) rfl (by simp) hend
    ·cases hk
   ·have h1 := hr.length
    have := hr.append (RepL.junks x (fn.ntmps - args.length) undef)
    simpa [h1] using this
  ·cases h
theorem autoD_ok {P : Program} {Φ : Orc} (hΦ : OSound P Φ) (hmix : P.follows .mixedOrders = true) {f : FuncId} {fn : Func} (hf : P.funcs[f]? = some fn) (hname : fn.name ≠ "runtime.NumGoroutine") {gid : FuncId} {g : Func} (hg : P.funcs[gid]? = some g)
  (hgb : g.body.isSome = true) (hgn : g.name ≠ "runtime.NumGoroutine") {lv lvC : Live} {n : Nat} {args : List AV} {o : OSh} {y : o.ty} (h : denFnD P Φ lv n fn g gid lvC args o.chk = some y) : Contract P f args [] (o.enc y) :=
 fnD_sound hΦ hmix hf hname hg hgb hgn (fun out ho => o.chk_enc out y ho) h
end Go.Den
namespace Go.Den
def plainDesc : TypeDesc → Bool
 | .named _ _ => true
 | .int _ => true
 |_ => false
theorem bindSome {α β : Type} {o : Option α} {f : α → Option β} {b : β} (h : (o >>= f) = some b) : ∃ a, o = some a ∧ f a = some b := by
 cases o with
 |none => cases h
 |some a => exact ⟨a, rfl, h⟩
theorem struct_desc {info : TypeId → Option TypeInfo} {fs : Array Field} {i : TypeInfo} (h : Made.reckonStruct info fs = some i) : plainDesc i.desc = false := by
 unfold Made.reckonStruct at h
 obtain ⟨a, _, h⟩ := bindSome h
 simp only at h
 split at h <;> cases h <;> rfl
theorem reckon_desc {info : TypeId → Option TypeInfo} {d : TypeDesc} {i : TypeInfo} (h : Made.reckon info d = some i) : plainDesc i.desc = false := by
 unfold Made.reckon at h
 cases d with
 |pointer e =>
  obtain ⟨a, _, h⟩ := bindSome h
  split at h
  ·cases h
  ·split at h
   ·cases h
   ·obtain ⟨b, _, h⟩ := bindSome h; cases h; rfl
  ·obtain ⟨b, _, h⟩ := bindSome h; cases h; rfl
 |slice e => obtain ⟨a, _, h⟩ := bindSome h; obtain ⟨b, _, h⟩ := bindSome h; cases h; rfl
 |map k e =>
  obtain ⟨a, _, h⟩ := bindSome h; obtain ⟨b, _, h⟩ := bindSome h
  obtain ⟨a, _, h⟩ := bindSome h; obtain ⟨b, _, h⟩ := bindSome h; cases h; rfl
 |chan dir e => obtain ⟨a, _, h⟩ := bindSome h; obtain ⟨b, _, h⟩ := bindSome h; cases h; rfl
 |func ps rs v => obtain ⟨b, _, h⟩ := bindSome h; cases h; rfl
 |array n e => obtain ⟨a, _, h⟩ := bindSome h; obtain ⟨b, _, h⟩ := bindSome h; cases h; rfl
 |struct fs => exact struct_desc h
 |_ => cases h
theorem made_desc {P : Program} {t : TypeId} {i : TypeInfo} (h : P.info? t = some i) (hd : plainDesc i.desc = true) : t < P.types.size := by
 rcases Nat.lt_or_ge t P.types.size with h1 | h1
 ·exact h1
 ·exfalso
  unfold Tables.info? at h
  rw [if_neg (Nat.not_lt.2 h1)] at h
  have e : ∀ f, Made.infoAt P.toTables (f + 1) t = if t < P.toTables.types.size then P.toTables.types[t]? else (Made.decode (t - P.toTables.types.size)).bind (Made.reckon (Made.infoAt P.toTables f)) := fun f => rfl
  rw [show Made.depth = 99 + 1 from rfl, e, if_neg (Nat.not_lt.2 h1)] at h
  obtain ⟨d, _, h2⟩ := Option.bind_eq_some_iff.1 h
  rw [reckon_desc h2] at hd
  cases hd
theorem vt_lt {P : Program} {t : TypeId} (h : vtOk P t = true) : t < P.types.size := by
 unfold vtOk at h
 split at h
 ·rename_i i hi
  refine made_desc hi ?_
  split at h
  ·rename_i hd; rw [hd]; rfl
  ·cases h
 ·cases h
theorem u8_lt {P : Program} {t : TypeId} (h : u8Ok P t = true) : t < P.types.size := by
 unfold u8Ok at h
 split at h
 ·rename_i i hi
  refine made_desc hi ?_
  split at h
  ·rename_i hd; rw [hd]; rfl
  ·cases h
 ·cases h
theorem only_of {p : Nat → Bool} {n T : Nat} (h0 : ∀ t, p t = true → t < n) (h : (List.range n).filter p = [T]) (t : Nat) (ht : p t = true) : t = T := by
 have : t ∈ (List.range n).filter p := List.mem_filter.2 ⟨List.mem_range.2 (h0 t ht), ht⟩
 rw [h] at this
 simpa using this
theorem setCell_row (w : World) (b o : Nat) (v : Value) (arr : Array Value) (ty : TypeId) (fr : Nat × Nat) (h : w.heap[b]? = some (.cells arr ty fr)) : w.setCell ⟨b, o, none⟩ v = w.setRow b (arr.setIfInBounds o v) := by
 unfold World.setCell World.setRow
 simp only [Option.isSome_none, Bool.false_eq_true, if_false]
 congr 1
 apply Array.ext_getElem?
 intro i
 simp only [Array.getElem?_modify]
 by_cases hi : b = i
 ·subst hi; simp [h]
 ·simp [hi]
theorem builder_cells {x : X} {a0 : AV} {n : Bool} {rows : Rows} {r : Right} {b3 : Bool} {l : List Value} (h : RepL x [a0, .sl n [.i .u8] rows r, .dv (.val (.bool b3))] l) : ∃ v0 v1, l = [v0, v1, .bool b3] ∧ Rep x a0 v0 ∧ Rep x (.sl n [.i .u8] rows r) v1 := by
 cases h with | cons _ v0 _ l1 h0 h =>
 cases h with | cons _ v1 _ l2 h1 h =>
 cases h with | cons _ v2 _ l3 h2 h =>
 cases h
 obtain rfl := Rep.val h2
 exact ⟨v0, v1, rfl, h0, h1⟩
theorem copyCheck_new {P : Program} {f : FuncId} {T : TypeId} (hf : ∃ fn, P.funcs[f]? = some fn ∧ fn.body.isSome = true ∧ fn.name ≠ "runtime.NumGoroutine") (hT : ∀ ty, vtOk P ty = true → ty = T)
  (hc : ∀ (b : Nat) (w : World), w.cell? ⟨b, 0, none⟩ = some (.pointer none) → w.shape? b = some (T, 3) → w.frozen? ⟨b, 0, none⟩ = false →
   Calls P f #[.pointer (some ⟨b, 0, none⟩)] w fun e w' => e = .returned (.tuple #[]) ∧ w' = w.setCell ⟨b, 0, none⟩ (.pointer (some ⟨b, 0, none⟩))) (J : Nat) (b3 : Bool) :
  Contract P f [.pl 1000 0] [[.dv (.val (.pointer none)), .sl true [.i .u8] [] (.tok J), .dv (.val (.bool b3))]] ⟨false, .tup [], [[.pl 1000 0, .sl true [.i .u8] [] (.tok 1), .dv (.val (.bool b3))]]⟩ := by
 refine ⟨hf, fun w x E L vs htok hI hR => ?_⟩
 cases hR with | cons _ v _ vs1 h1 h2 =>
 cases h2
 cases h1 with | pl _ _ b hb =>
 obtain ⟨b', ty, arr, p1, p2, p3, p4, p5⟩ := hI.slot 1000 _ rfl
 rw [objOf_cells rfl] at p3
 rw [hb] at p1
 cases p1
 obtain rfl := hT ty (hI.more.vir 1000 b _ arr ty rfl rfl hb p3)
 obtain ⟨v0, v1, hl, r0, r1⟩ := builder_cells (p4.plain rfl)
 obtain rfl := Rep.val r0
 have harr : arr = #[.pointer none, v1, .bool b3] := Array.toList_inj.1 hl
 subst harr
 refine (hc b w (by simp [World.cell?, p3]) (by simp [World.shape?, p3]) (by simp [World.frozen?, p3])).mono ?_
 rintro en w' ⟨rfl, rfl⟩
 rw [setCell_row w b 0 _ _ _ _ p3]
 have hI2 := hI.withSlot 1000 [.dv (.val (.pointer none)), .sl true [.i .u8] [] (.tok J), .dv (.val (.bool b3))] [.pl 1000 0, .sl true [.i .u8] [] (.tok J), .dv (.val (.bool b3))] b rfl hb _ _
  ((#[.pointer none, v1, .bool b3] : Array Value).setIfInBounds 0 (.pointer (some ⟨b, 0, none⟩))) p3 (by simp) (fun h => by cases h) (.inl (by
   show RepL x _ [.pointer (some ⟨b, 0, none⟩), v1, .bool b3]
   exact .cons _ _ _ _ (.pl 1000 0 b hb) (.cons _ _ _ _ r1 (.cons _ _ _ _ (.dv _ _ (.val _ rfl)) .nil))))
 obtain ⟨_, x', h3, h4⟩ := exit_sound (keep := false) (avs := []) (vs := []) (r := .tup []) (ext := [[.dv (.val (.pointer none)), .sl true [.i .u8] [] (.tok J), .dv (.val (.bool b3))]]) hI2 .nil rfl rfl
 exact ⟨x', .tuple #[], rfl, rfl, h3, by simpa using h4⟩
theorem copyCheck_used {P : Program} {f : FuncId} (hf : ∃ fn, P.funcs[f]? = some fn ∧ fn.body.isSome = true ∧ fn.name ≠ "runtime.NumGoroutine")
  (hc : ∀ (b : Nat) (w : World), w.cell? ⟨b, 0, none⟩ = some (.pointer (some ⟨b, 0, none⟩)) →
   Calls P f #[.pointer (some ⟨b, 0, none⟩)] w fun e w' => e = .returned (.tuple #[]) ∧ w' = w) (J : Nat) (n : Bool) (rows : Rows) (b3 : Bool) :
  Contract P f [.pl 1000 0] [[.pl 1000 0, .sl n [.i .u8] rows (.tok J), .dv (.val (.bool b3))]] ⟨false, .tup [], [[.pl 1000 0, .sl n [.i .u8] rows (.tok 1), .dv (.val (.bool b3))]]⟩ := by
 refine ⟨hf, fun w x E L vs htok hI hR => ?_⟩
 cases hR with | cons _ v _ vs1 h1 h2 =>
 cases h2
 cases h1 with | pl _ _ b hb =>
 obtain ⟨b', ty, arr, p1, p2, p3, p4, p5⟩ := hI.slot 1000 _ rfl
 rw [objOf_cells rfl] at p3
 rw [hb] at p1
 cases p1
 obtain ⟨v0, v1, hl, r0, r1⟩ := builder_cells (p4.plain rfl)
 cases r0 with | pl _ _ b2 hb2 =>
 rw [hb] at hb2
 cases hb2
 have harr : arr = #[.pointer (some ⟨b, 0, none⟩), v1, .bool b3] := Array.toList_inj.1 hl
 subst harr
 refine (hc b w (by simp [World.cell?, p3])).mono ?_
 rintro en w' ⟨rfl, rfl⟩
 obtain ⟨_, x', h3, h4⟩ := exit_sound (keep := false) (avs := []) (vs := []) (r := .tup []) (ext := [[.pl 1000 0, .sl n [.i .u8] rows (.tok J), .dv (.val (.bool b3))]]) hI .nil rfl rfl
 exact ⟨x', .tuple #[], rfl, rfl, h3, by simpa using h4⟩
theorem Inv.frozen {e : Env} {x : X} {w w' : World} {m : Mem} (h : Inv e x w m) (htk : ∀ k, x.tk k = none) (g : Nat) (hg : e.w0.heap.size ≤ g ∨ g ∈ e.L) (hs : ∀ k cs, lookup m k = some cs → x.loc k ≠ some g)
  (ho : w'.os = w.os) (ht : w'.tape = w.tape) (hu : w'.output = w.output) (hz : w'.heap.size = w.heap.size) (hd : w.drawn ≤ w'.drawn) (hb : ∀ b, b ≠ g → w'.heap[b]? = w.heap[b]?) (hc : ∀ o, w'.cell? ⟨g, o, none⟩ = w.cell? ⟨g, o, none⟩) : Inv e x w' m where
 sub b o v hv := by
  by_cases hbg : b = g
  ·subst hbg; rw [hc]; exact h.sub b o v hv
  ·rw [World.cell?_of_block (w := w) (hb b hbg)]; exact h.sub b o v hv
 slot k cs hk := by
  obtain ⟨b, ty, arr, h1, h2, h3, h4, h5⟩ := h.slot k cs hk
  exact ⟨b, ty, arr, h1, h2, by rw [hb b (fun e => hs k cs hk (by rw [h1, e]))]; exact h3, h4, h5⟩
 inj := h.inj
 tok k v sz hk := by rw [htk] at hk; cases hk
 tokslot k a n c sz j cs hk := by rw [htk] at hk; cases hk
 toktok k k' a n c sz a' n' c' sz' hk := by rw [htk] at hk; cases hk
 os := ho.trans h.os
 tape := ht.trans h.tape
 output := hu.trans h.output
 size := by rw [hz]; exact h.size
 old b hlt hE hL := by
  have hbg : b ≠ g := by
   rintro rfl
   rcases hg with h1 | h1
   ·omega
   ·exact hL h1
  rw [hb b hbg]; exact h.old b hlt hE hL
 mono := h.mono
 new := h.new
 ext := h.ext
 low := h.low
 glob := h.glob
 more := ⟨fun k b cs hk hmp hl => by
  obtain ⟨arr, ty, h1, h2⟩ := h.more.room k b cs hk hmp hl
  exact ⟨arr, ty, by rw [hb b (fun e => hs k cs hk (by rw [hl, e]))]; exact h1, h2⟩, h.more.ext, h.more.M0, fun k b cs arr ty hk hv hl hh => by
  rw [hb b (fun e => hs k cs hk (by rw [hl, e]))] at hh
  exact h.more.vir k b cs arr ty hk hv hl hh, Nat.le_trans h.more.drawn hd⟩
def okBytes : Rows → Bool
 |[] => true
 |r :: l => (match r with | [.val (.int .u8 z)] => decide (0 ≤ z) && decide (z < 256) | _ => false) && okBytes l
theorem okBytes_get : ∀ {rows : Rows} {j : Nat} {r : Row}, okBytes rows = true → rows[j]? = some r → ∃ z, r = [.val (.int .u8 z)] ∧ 0 ≤ z ∧ z < 256
 |[], j, r, _, h => by simp at h
 |q :: rows, 0, r, hk, h => by
  simp at h; subst h
  simp only [okBytes, Bool.and_eq_true] at hk
  have h1 := hk.1
  split at h1
  ·rename_i z
   simp only [Bool.and_eq_true, decide_eq_true_eq] at h1
   exact ⟨z, rfl, h1.1, h1.2⟩
  ·cases h1
 |q :: rows, j + 1, r, hk, h => by
  simp only [okBytes, Bool.and_eq_true] at hk
  exact okBytes_get hk.2 (by simpa using h)
theorem rowsAt_byte {M : Mm} : ∀ {b o : Nat} {rows : Rows}, RowsAt M b o [.i .u8] rows → ∀ {j : Nat} {z : Int}, rows[j]? = some [.val (.int .u8 z)] → M b (o + j) = some (.int .u8 z)
 |_, _, _, .nil b o _, j, z, h => by simp at h
 |_, _, _, .cons b o _ row rows h1 h2 h3, 0, z, h => by
  simp at h; subst h
  obtain ⟨v, hv, hd⟩ := CellsAt.get h2 (j := 0) rfl
  cases hd
  exact hv
 |_, _, _, .cons b o _ row rows h1 h2 h3, j + 1, z, h => by
  have := rowsAt_byte h3 (j := j) (z := z) (by simpa using h)
  rw [← this]
  show M b (o + (j + 1)) = M b (o + 1 + j)
  congr 1; omega
theorem string_contract {P : Program} {f : FuncId} {T : TypeId} (hf : ∃ fn, P.funcs[f]? = some fn ∧ fn.body.isSome = true ∧ fn.name ≠ "runtime.NumGoroutine") (hT : ∀ ty, u8Ok P ty = true → ty = T)
  (hc : ∀ (b g cap : Nat) (l : List UInt8), l ≠ [] → ∀ (cur : Array Value) (w : World), w.cell? ⟨b, 1, none⟩ = some (.slice (some ⟨g, 0, none⟩) l.length cap) → w.heap[g]? = some (.cells cur T (0, 0)) →
   l.length ≤ cap → cap ≤ maxLen → l.length ≤ cur.size → (∀ j x, l[j]? = some x → w.cell? ((⟨g, 0, none⟩ : Addr).add j) = some (.int .u8 x.toNat)) →
   Calls P f #[.pointer (some ⟨b, 0, none⟩)] w fun e w' => e = .returned (.string ⟨l.toArray⟩) ∧ w' = w.drew.freeze ⟨g, 0, none⟩ l.length)
  (J : Nat) (n : Bool) (rows : Rows) (b3 : Bool) (hne : rows ≠ []) (hok : okBytes rows = true) :
  Contract P f [.pl 1000 0] [[.pl 1000 0, .sl n [.i .u8] rows (.tok J), .dv (.val (.bool b3))]] ⟨false, .dv (.val (.string (bytesOf rows))), [[.pl 1000 0, .sl n [.i .u8] rows .no, .dv (.val (.bool b3))]]⟩ := by
 refine ⟨hf, fun w x E L vs htok hI hR => ?_⟩
 cases hR with | cons _ v _ vs1 h1 h2 =>
 cases h2
 cases h1 with | pl _ _ b hb =>
 obtain ⟨b', ty, arr, p1, p2, p3, p4, p5⟩ := hI.slot 1000 _ rfl
 rw [objOf_cells rfl] at p3
 rw [hb] at p1
 cases p1
 obtain ⟨v0, v1, hl, r0, r1⟩ := builder_cells (p4.plain rfl)
 have harr : arr = #[v0, v1, .bool b3] := Array.toList_inj.1 hl
 subst harr
 cases r1 with | sl _ _ _ _ _ hd hr =>
 have hr : x.tk J = some (v1, [.i .u8]) := hr
 rcases hd.rows with ⟨_, h0, _⟩ | ⟨a, c, _, rfl, hc2, hsp, hra⟩
 ·exact absurd h0 hne
 have hpos : 0 < rows.length := List.length_pos_iff.2 hne
 obtain ⟨cur, ty2, q1, q2, q3, q4, q5, q6, q7⟩ := hI.tok J _ _ hr a rows.length c rfl (by omega)
 obtain ⟨g, off, sp⟩ := a
 simp only at q1 q2
 subst q1; subst q2
 obtain rfl := hT ty2 (q5.2 rfl)
 have hlen : (rows.map fun r => UInt8.ofNat (Row.I r 0).toNat).length = rows.length := List.length_map _
 have hcall := hc b g c (rows.map fun r => UInt8.ofNat (Row.I r 0).toNat) (by simpa using hne) cur w (by rw [hlen]; simp [World.cell?, p3]) q4 (by rw [hlen]; exact hc2) q5.1 (by rw [hlen]; simp only [List.length_cons, List.length_nil] at q6; omega) (by
  intro j u hj
  rw [List.getElem?_map] at hj
  obtain ⟨r, hr1, hr2⟩ := Option.map_eq_some_iff.1 hj
  obtain ⟨z, rfl, z0, z1⟩ := okBytes_get hok hr1
  have hm := rowsAt_byte hra hr1
  have hcell := hI.sub _ _ _ hm
  have hz : (u.toNat : Int) = z := by
   rw [← hr2]
   show ((UInt8.ofNat z.toNat).toNat : Int) = z
   rw [UInt8.toNat_ofNat_of_lt' (by show z.toNat < 256; omega)]
   omega
  rw [hz, add_addr (a := ⟨g, 0, none⟩) rfl]
  exact hcell)
 refine hcall.mono ?_
 rintro en w' ⟨rfl, rfl⟩
 have hI2 : Inv ⟨P, w, x, E, [], L⟩ { x with tk := fun _ => none } w (zipExt 1000 [[.pl 1000 0, .sl n [.i .u8] rows .no, .dv (.val (.bool b3))]]) := by
  refine hI.bare _ ?_ (fun _ _ _ h => by cases h) (fun _ _ _ _ _ _ _ h => by cases h) (fun _ _ _ _ _ _ _ _ _ _ h => by cases h)
  intro k cs hk
  rw [lookup_zipExt] at hk
  split at hk
  ·rename_i hle
   cases hq : k - 1000 with
   |zero =>
    rw [hq] at hk; simp at hk; subst hk
    obtain rfl : k = 1000 := by omega
    exact ⟨_, rfl, rfl⟩
   |succ q => rw [hq] at hk; simp at hk
  ·cases hk
 have hgl : g < w.heap.size := (Array.getElem?_eq_some_iff.1 q4).1
 have hn0 : ¬ (rows.map fun r => UInt8.ofNat (Row.I r 0).toNat).length = 0 := by omega
 have hfz : (w.drew.freeze ⟨g, 0, none⟩ (rows.map fun r => UInt8.ofNat (Row.I r 0).toNat).length).heap[g]? = some (.cells cur ty2 (0, 0 + (rows.map fun r => UInt8.ofNat (Row.I r 0).toNat).length)) := by
  have hq4 : w.drew.heap[g]? = some (.cells cur ty2 (0, 0)) := q4
  simp only [World.freeze, if_neg hn0, Array.getElem?_modify, if_true, hq4, Option.map_some]
  simp
 refine ⟨{ x with tk := fun _ => none }, .string (bytesOf rows), rfl, rfl, hI2.frozen (fun _ => rfl) g q3 (fun k cs hk hl => ?_) ?_ ?_ ?_ ?_ ?_ ?_ ?_, .dv _ _ (.val _ rfl)⟩
 ·rw [lookup_zipExt] at hk
  split at hk
  ·rename_i hle
   cases hq : k - 1000 with
   |zero =>
    obtain rfl : k = 1000 := by omega
    exact hI.tokslot J _ _ _ _ 1000 _ hr (by omega) rfl hl
   |succ q => rw [hq] at hk; simp at hk
  ·cases hk
 ·unfold World.freeze; split <;> rfl
 ·unfold World.freeze; split <;> rfl
 ·unfold World.freeze; split <;> rfl
 ·unfold World.freeze
  split
  ·rfl
  ·exact Array.size_modify
 ·unfold World.freeze; split <;> exact Nat.le_succ _
 ·intro b2 hb2
  unfold World.freeze
  split
  ·rfl
  ·have hb2' : ¬ g = b2 := fun e => hb2 e.symm
   show (w.heap.modify g _)[b2]? = w.heap[b2]?
   rw [Array.getElem?_modify, if_neg hb2']
 ·intro o
  unfold World.cell?
  simp only
  rw [hfz, show w.heap[g]? = some (.cells cur ty2 (0, 0)) from q4]
end Go.Den
namespace Go.Den
structure Memo where
 und : TypeId → Option TypeDesc
 kds : TypeId → Option (List Kd)
 zero : TypeId → Option (List AV)
 plain : TypeId → Option (List Kd)
 guard : TypeId → Bool
 size : TypeId → Option Nat
 agg : TypeId → Option Bool
 sized : TypeId → Bool
 info : TypeId → Option TypeInfo
def Memo.std (P : Program) : Memo := ⟨P.underlying, kdsOf P 9, zeroOf P, plainKds P 9, P.eqGuardType P.depth, size? P, agg? P, Go.Den.sized P, P.info?⟩
end Go.Den
namespace Go.Den.DM

noncomputable section
variable (M : Memo) (Φ : Orc)
def vtOk (t : TypeId) : Bool := match M.info t with | some i => (match i.desc with | .named _ _ => i.str == "show.printer" | _ => false) | none => false
def virOk (t : TypeId) (cs : List AV) : Bool := match virgin cs with | true => vtOk M t | false => true
def u8Ok (t : TypeId) : Bool := match M.info t with | some i => (match i.desc with | .int .u8 => i.str == "uint8" | _ => false) | none => false
def u8El (t : TypeId) (ks : List Kd) : Bool := match u8k ks with | true => u8Ok M t | false => true
def ofConst (t : TypeId) : Value → Option AV
 | .bool b => some (.B b)
 | .int k n => some (.I k n)
 | .string s => some (.S s)
 | .pointer none => some (.dv (.val (.pointer none)))
 | .nilFunc => some (.dv (.val .nilFunc))
 | .nilIface => some (.dv (.val .nilIface))
 | .slice none 0 0 =>
  match M.und t with
  |some (.slice e) => match  M.kds e with | some ks => some (.sl true ks [] .ex) | none => none
  |_ => none
 |_ => none
def evT (t : List AV) (ty : TypeId) : Operand → Option AV
 | .tmp i => t[i]?
 | .const v => ofConst M ty v
 | .func f => some (.fn f [])
 | .global _ => none

def field? (t : TypeId) (i : Nat) : Option (Nat × TypeId) :=
 match M.und t with
 |some (.struct fs) => match fs[i]? with | some f => some (f.offset, f.type) | none => none
 |_ => none
def place? (t : TypeId) (i : Nat) : Option (Nat × Nat × TypeId) :=
 match M.und t with
 |some (.struct fs) => match fs[i]? with | some f => (match M.size f.type with | some n => some (f.offset, n, f.type) | none => none) | none => none
 |some (.array _ e) => match M.size e with | some n => some (i * n, n, e) | none => none
 |_ => none

def parts (t : TypeId) (tm : List AV) : List (Nat × Operand) → List AV → Option (List AV)
 |[], cs => some cs
 |(i, x) :: rest, cs =>
  match place? M t i with
  |some (off, n, ty) => match evT M tm ty x with
   |some v => match v.cells with
    |some new => if Nat.beq new.length n && Nat.ble (off + n) cs.length then parts t tm rest (splice cs off new) else none
    |none => none
   |none => none
  |none => none

def rowsOf (e : TypeId) (ks : List Kd) (tm : List AV) : List (Nat × Operand) → Rows → Option Rows
 |[], rs => some rs
 |(i, x) :: rest, rs =>
  match evT M tm e x with
  |some v => match v.row with
   |some r => if Row.ofKds ks r && Nat.blt i rs.length then rowsOf e ks tm rest (rs.set i r) else none
   |none => none
  |none => none

def binE (op : BinOp) (t : TypeId) (a b : AV) : Option AV :=
 match a, b with
 | .dv (.val (.int k x)), .dv (.val (.int j y)) => if k = j then arith op k x y else none
 | .dv (.val (.string x)), .dv (.val (.string y)) => strOp op x y
 | .dv (.val (.bool x)), .dv (.val (.bool y)) =>
  match M.und t with
  |some .bool => nilOp op (x == y)
  |_ => none
 | .agg x, .agg y =>
  match M.und t, M.plain t with
  |some (.struct _), some ks => if M.guard t then none else match eqK ks x y with | some r => nilOp op r | none => none
  |_, _ => none
 | .sl n _ _ _, .sl true _ [] .ex => match M.und t with | some (.slice _) => nilOp op n | _ => none
 | .ms .., .sl true _ [] .ex => match M.und t with | some (.slice _) => nilOp op false | _ => none
 | .pl _ off, .dv (.val (.pointer none)) => match M.und t, Nat.beq off mapOff with | some (.pointer _), false => nilOp op false | _, _ => none
 | .fn _ _, .dv (.val .nilFunc) => match M.und t with | some (.func _ _ _) => nilOp op false | _ => none
 | .ifc _ _, .dv (.val .nilIface) => match M.und t with | some (.interface _) => nilOp op false | _ => none
 | .dv (.val .nilIface), .dv (.val .nilIface) => match M.und t with | some (.interface ms) => (match ms.toList with | [] => nilOp op true | _ => none) | _ => none
 | .dv (.val .nilFunc), .dv (.val .nilFunc) => match M.und t with | some (.func _ _ _) => nilOp op true | _ => none
 | .dv (.val (.pointer none)), .dv (.val (.pointer none)) => match M.und t with | some (.pointer _) => nilOp op true | _ => none
 | .pl k off, .pl k' off' => match M.und t with
  |some (.pointer el) => match M.size el, Nat.beq k k' && Nat.beq off off' && !Nat.beq off mapOff with
   |some _, true => nilOp op true
   |_, _ => none
  |_ => none
 |_, _ => none
def evs (tm : List AV) : List TypeId → List Operand → Option (List AV)
 |_, [] => some []
 |[], x :: xs => match evT M tm 0 x with
  |some v => match evs tm [] xs with | some l => some (v :: l) | none => none
  |none => none
 |t :: ts, x :: xs => match evT M tm t x with
  |some v => match evs tm ts xs with | some l => some (v :: l) | none => none
  |none => none

def elemOk (t : TypeId) (ks : List Kd) : Bool :=
 match M.und t with
 |some (.slice e) => match  M.kds e, M.size e with | some ke, some n => Kd.sameL ks ke && Nat.beq n ke.length | _, _ => false
 |_ => false

def clearE {R : Type} (m : Mem) (ts : List TypeId) (j : Nat) (ks : List Kd) (off n : Nat) (k : Eff → Option R) : Option R :=
 match ts with
 |[t] => match M.und t with
  |some (.slice e) => match M.zero e, lookupA m j with
   |some z, some (ks2, rows) => match AV.flats z with
    |some zr => match Kd.sameL ks ks2 && Row.ofKds ks zr with
     |true => if off + n ≤ rows.length then k (.full (.tup []) [] [] [(j, [.arr ks (rows.take off ++ List.replicate n zr ++ rows.drop (off + n))])]) else none
     |false => none
    |none => none
   |_, _ => none
  |_ => none
 |_ => none
def copyE {R : Type} (m : Mem) (ts : List TypeId) (j : Nat) (ks : List Kd) (off n : Nat) (ks2 : List Kd) (rows2 : Rows) (k : Eff → Option R) : Option R :=
 match ts with
 |[t, _] => match elemOk M t ks && Kd.sameL ks ks2, lookupA m j with
  |true, some (ks3, rows) => match Kd.sameL ks ks3 with
   |true => if off + n ≤ rows.length then k (.full (.I .i64 (min rows2.length n : Nat)) [] [] [(j, [.arr ks (rows.take off ++ rows2.take (min rows2.length n) ++ rows.drop (off + min rows2.length n))])]) else none
   |false => none
  |_, _ => none
 |_ => none
def builtinE {R : Type} (m : Mem) (d : Option Tmp) (b : Builtin) (ts : List TypeId) (args : List AV) (k : Eff → Option R) : Option R :=
 match b, args with
 | .len, [.dv (.val (.string s))] => match ts with
  |t :: _ => match M.und t with
   |some .string => k (.pure (.I .i64 s.size))
   |_ => none
  |[] => none
 | .len, [.sl _ _ rows _] => match ts with
  |t :: _ => match M.und t with
   |some (.slice _) => k (.pure (.I .i64 rows.length))
   |_ => none
  |[] => none
 | .len, [.ms _ _ _ n _] => match ts with
  |t :: _ => match M.und t with
   |some (.slice _) => k (.pure (.I .i64 n))
   |_ => none
  |[] => none
 | .min, [.dv (.val (.int j x)), .dv (.val (.int l y))] => if j = l then k (.pure (.I j (if y < x then y else x))) else none
 | .max, [.dv (.val (.int j x)), .dv (.val (.int l y))] => if j = l then k (.pure (.I j (if y > x then y else x))) else none
 | .append, [.sl n ks rows r, .sl _ ks2 rows2 _] =>
  match d, ts with
  |some d, [t, t2] =>
   match M.und t with
   |some (.slice e) => match M.info e,  M.kds e, appendRight d r with
    |some i, some ke, some strike =>
     match i.zero with
     |some z =>
      if Nat.beq t t2 && Kd.sameL ks ke && Kd.sameL ks2 ke && Nat.beq i.size ke.length && Nat.beq z.cells.size i.size && Nat.blt 0 i.bytes && u8El M e ks then
       if (rows.length + rows2.length) * i.bytes ≤ 140737488355328 then
        appTokK d r rows rows2 fun r' => k (.full (.sl (n && rows2.isEmpty) ks (rows ++ rows2) r') [] strike [])
       else none
      else none
     |none => none
    |_, _, _ => none
   |_ => none
  |_, _ => none
 | .append, [.ms j ks off n _, .sl _ ks2 rows2 _] =>
  match d, ts with
  |some d, [t, t2] =>
   match M.und t with
   |some (.slice e) => match M.info e,  M.kds e, lookupA m j with
    |some i, some ke, some (ks3, []) =>
     match i.zero with
     |some z =>
      if Nat.beq t t2 && Kd.sameL ks ke && Kd.sameL ks2 ke && Kd.sameL ks3 ke && Nat.beq i.size ke.length && Nat.beq z.cells.size i.size && Nat.blt 0 i.bytes && Nat.beq off 0 && Nat.beq n 0 && Nat.blt j 1000 && Nat.blt d 1000 then
       if rows2.length * i.bytes ≤ 140737488355328 then
        k (.full (.ms d ks 0 rows2.length rows2.length) [j, d] [] [(d, [.arr ks rows2])])
       else none
      else none
     |none => none
    |_, _, _ => none
   |_ => none
  |_, _ => none
 | .append, [.sl n ks rows r, .dv (.val (.string s))] =>
  match d, ts with
  |some d, [t, t2] =>
   match M.und t, M.und t2 with
   |some (.slice e), some .string => match M.info e,  M.kds e, M.und e, appendRight d r with
    |some i, some ke, some (.int .u8), some strike =>
     match i.zero with
     |some z =>
      if Kd.sameL ks ke && Kd.sameL ke [.i .u8] && Nat.beq i.size 1 && Nat.beq z.cells.size i.size && Nat.blt 0 i.bytes && u8El M e ks then
       if (rows.length + s.size) * i.bytes ≤ 140737488355328 then
        k (.full (.sl (n && s.size == 0) ks (rows ++ byteRows s) (appTok d r rows (byteRows s))) [] strike [])
       else none
      else none
     |none => none
    |_, _, _, _ => none
   |_, _ => none
  |_, _ => none
 | .clear, [.ms j ks off n _] => clearE M m ts j ks off n k
 | .copy, [.ms j ks off n _, .sl _ ks2 rows2 _] => copyE M m ts j ks off n ks2 rows2 k
 |_, _ => none

def evO (tm : List AV) : Option Operand → Option (Option AV)
 |none => some none
 |some x => match evT M tm 0 x with | some v => some (some v) | none => none

def loadE {R : Type} (m : Mem) (t : TypeId) (a : AV) (k : Eff → Option R) : Option R :=
 match M.agg t, M.size t with
 |some true, some n =>
  match a with
  | .pl j off => match lookupC m j with
   |some cs => if Nat.ble (off + n) cs.length && !Nat.beq off mapOff then k (.pure (.agg ((cs.drop off).take n))) else none
   |none => none
  | .pv ks row off => if Nat.ble (off + n) ks.length then k (.pure (.agg (Row.cells row ((ks.drop off).take n) off))) else none
  | .pa j ks i q => match lookupA m j with
   |some (ks2, rows) => if Kd.sameL ks ks2 && Nat.ble (q + n) ks.length then if i < rows.length then k (.pure (.agg (Row.cells (rows.getD i []) ((ks.drop q).take n) q))) else none else none
   |none => none
  |_ => none
 |some false, some _ =>
  match a with
  | .pl j off => match lookupC m j with
   |some cs => match cs[off]?, Nat.beq off mapOff with
    |some v, false => k (.pure v)
    |_, _ => none
   |none => none
  | .pv ks row off => match ks[off]? with
   |some kd => k (.pure (Row.cell kd row off))
   |none => none
  | .pa j ks i q => match lookupA m j, ks[q]? with
   |some (ks2, rows), some kd => if Kd.sameL ks ks2 then if i < rows.length then k (.pure (Row.cell kd (rows.getD i []) q)) else none else none
   |_, _ => none
  |_ => none
 |_, _ => none

def storeE {R : Type} (m : Mem) (t : TypeId) (a v : AV) (k : Eff → Option R) : Option R :=
 match M.size t, a, v.cells with
 |some n, .pl j off, some new =>
  match lookupC m j with
  |some cs => if Nat.beq new.length n && Nat.ble (off + n) cs.length && AV.areCells new && virLe (splice cs off new) cs && !Nat.beq off mapOff then k (.full .junk [] [] [(j, splice cs off new)]) else none
  |none => none
 |some n, .pa j ks i q, some new =>
  match lookupA m j, AV.flats new with
  |some (ks2, rows), some fl =>
   if Kd.sameL ks ks2 && Nat.beq new.length n && Nat.ble (q + n) ks.length && Row.ofKds ((ks.drop q).take n) fl then
    if i < rows.length then k (.full .junk [] [] [(j, [.arr ks (rows.set i (spliceD (rows.getD i []) q fl))])]) else none
   else none
  |_, _ => none
 |_, _, _ => none

def keyOk (t : TypeId) (ks : List Kd) : Bool :=
 match M.und t, ks with
 |some .bool, .b :: _ => true
 |some (.int k), .i j :: _ => decide (k = j)
 |some .string, .s :: _ => true
 |_, _ => false
def zAgg (t : TypeId) : Option Bool :=
 match M.info t with
 |some i => match i.zero with
  |some (.agg _) => some true
  |some _ => some false
  |none => none
 |none => none
def newMapE {R : Type} (d : Option Tmp) (t : TypeId) (k : Eff → Option R) : Option R :=
 match d, M.und t with
 |some d, some (.map kt et) => match  M.kds kt,  M.kds et, zAgg M et with
  |some ks, some vs, some ag => if flatKds (ks ++ vs) && Nat.blt d 1000 then k (.full (.pl d mapOff) [d] [] [(d, [mpTag ag, .arr (ks ++ vs) []])]) else none
  |_, _, _ => none
 |_, _ => none
def lookE {R : Type} (m : Mem) (t : TypeId) (a x : AV) (ok : Bool) (k : Eff → Option R) : Option R :=
 match M.und t, a, x with
 |some (.map kt et), .pl j off, .dv key => match lookupM m j, M.zero et, zAgg M et, Nat.beq off mapOff with
  |some (ag, ks, rows), some z, some ag', true => match AV.flats z with
   |some zr => if keyOk M kt ks && (ag == ag') && Row.ofKds ks (key :: zr) then match entryAV ag ks (mget rows key (key :: zr)) with
     |some v => k (.pure (match ok with | true => .tup [v, .B (mhas rows key)] | false => v))
     |none => none
    else none
   |none => none
  |_, _, _, _ => none
 |_, _, _ => none
def putE {R : Type} (m : Mem) (t : TypeId) (a x v : AV) (k : Eff → Option R) : Option R :=
 match M.und t, a, x, v.cells with
 |some (.map kt _), .pl j off, .dv key, some new => match lookupM m j, AV.flats new, Nat.beq off mapOff with
  |some (ag, ks, rows), some fl, true =>
   if keyOk M kt ks && (ag == v.isAgg) && Row.ofKds ks (key :: fl) then k (.full .junk [] [] [(j, [mpTag ag, .arr ks (mput rows key (key :: fl))])]) else none
  |_, _, _ => none
 |_, _, _, _ => none

def opE {R : Type} (tm : List AV) (m : Mem) (o : Oper) (k : Eff → Option R) (kp : Eff → Option R) : Option R :=
 match o.op with
 | .move x => match evT M tm o.type x with | some v => k (.pure v) | none => none
 | .assign x => match evT M tm o.type x with | some v => k (.pure v) | none => none
 | .pick c a b =>
  match evT M tm 0 c with
  |some (.dv (.val (.bool true))) => match evT M tm o.type a with | some v => k (.pure v) | none => none
  |some (.dv (.val (.bool false))) => match evT M tm o.type b with | some v => k (.pure v) | none => none
  |_ => none
 | .alloc e =>
  match o.dst, M.zero e with
  |some d, some cs => if Nat.blt d 1000 && virOk M e cs then k (.full (.pl d 0) [d] [] [(d, cs)]) else none
  |_, _ => none
 | .box e x =>
  match o.dst, evT M tm e x with
  |some d, some v => match v.cells with
   |some cs => if Nat.blt d 1000 && virOk M e (AV.scrubL [d] [] cs) then k (.full (.pl d 0) [d] [] [(d, AV.scrubL [d] [] cs)]) else none
   |none => none
  |_, _ => none
 | .build t ps =>
  match M.zero t, M.sized t with
  |some cs, true => match parts M t tm ps.toList cs with
   |some cs => k (.pure (.agg cs))
   |none => none
  |_, _ => none
 | .buildSlice t n ps =>
  match M.und t with
  |some (.slice e) => match  M.kds e, M.zero e, M.size e with
   |some ks, some z, some se => match AV.flats z with
    |some zr => match rowsOf M e ks tm ps.toList (List.replicate n zr) with
     |some rows => if Nat.beq se ks.length && Row.ofKds ks zr && Nat.ble (n * se) 16777216 then
       match o.dst with
       |some d => match mem d Φ.hs && Nat.blt d 1000 && Nat.ble n 16777216 with
        |true => k (.full (.ms d ks 0 n n) [d] [] [(d, [.arr ks rows])])
        |false => match mem (2000000 + d) Φ.hs && !u8k ks && Nat.ble n 16777216 with
         |true => k (.full (.sl false ks rows (.tok d)) [] [d] [])
         |false => k (.pure (.sl false ks rows .ex))
       |none => k (.pure (.sl false ks rows .ex))
      else none
     |none => none
    |none => none
   |_, _, _ => none
  |_ => none
 | .load t a => match evT M tm 0 a with | some v => loadE M m t v k | none => none
 | .store t a x => match evT M tm 0 a, evT M tm t x with | some v, some x => storeE M m t v x k | _, _ => none
 | .makeMap t none => newMapE M o.dst t k
 | .lookup t a x ok => match M.und t with
  |some (.map kt _) => match evT M tm t a, evT M tm kt x with | some a, some x => lookE M m t a x ok k | _, _ => none
  |_ => none
 | .mapUpdate t a x v => match M.und t with
  |some (.map kt et) => match evT M tm t a, evT M tm kt x, evT M tm et v with | some a, some x, some v => putE M m t a x v k | _, _, _ => none
  |_ => none
 | .nilCheck x =>
  match evT M tm 0 x with
  |some (.pl j off) => match Nat.beq off mapOff with | false => k (.pure (.pl j off)) | true => none
  |some (.pv ks row off) => k (.pure (.pv ks row off))
  |some (.pa j ks i q) => k (.pure (.pa j ks i q))
  |some (.fn f caps) => k (.pure (.fn f caps))
  |_ => none
 | .binOp op t x y u =>
  match op with
  | .quo => match evT M tm t x, evT M tm u y with
   |some (.dv (.val (.int j x))), some (.dv (.val (.int l y))) => if j = l then if y = 0 then none else k (.pure (.I j (j.wrap (x.tdiv y)))) else none
   |_, _ => none
  | .rem => match evT M tm t x, evT M tm u y with
   |some (.dv (.val (.int j x))), some (.dv (.val (.int l y))) => if j = l then if y = 0 then none else k (.pure (.I j (x.tmod y))) else none
   |_, _ => none
  | .shl => match evT M tm t x, evT M tm u y with
   |some (.dv (.val (.int j x))), some (.dv (.val (.int _ y))) => if y < 0 then none else k (.pure (.I j (j.wrap (x * 2 ^ (min y.toNat j.bits)))))
   |_, _ => none
  | .shr => match evT M tm t x, evT M tm u y with
   |some (.dv (.val (.int j x))), some (.dv (.val (.int _ y))) => if y < 0 then none else k (.pure (.I j (x.fdiv (2 ^ (min y.toNat j.bits)))))
   |_, _ => none
  | .add => match evT M tm t x, evT M tm u y with
   |some (.dv (.val (.string x))), some (.dv (.val (.string y))) => if x.size + y.size < 4611686018427387904 then k (.pure (.S (x ++ y))) else none
   |some a, some b => match binE M .add t a b with | some v => k (.pure v) | none => none
   |_, _ => none
  |op => match evT M tm t x, evT M tm u y with
   |some a, some b => match binE M op t a b with | some v => k (.pure v) | none => none
   |_, _ => none
 | .unOp op t x =>
  match op, evT M tm t x with
  | .neg, some (.dv (.val (.int j n))) => k (.pure (.I j (j.wrap (0 - n))))
  | .not, some (.dv (.val (.bool b))) => k (.pure (.B (!b)))
  |_, _ => none
 | .convert src dst x =>
  match M.und src, M.und dst, evT M tm src x with
  |some (.int _), some (.int j), some (.dv (.val (.int _ n))) => k (.pure (.I j (j.wrap n)))
  |some .string, some .string, some (.dv (.val (.string s))) => k (.pure (.S s))
  |some (.slice e), some .string, some (.sl _ [.i .u8] rows _) =>
   match M.und e with
   |some (.int .u8) => k (.pure (.S (bytesOf rows)))
   |_ => none
  |_, _, _ => none
 | .makeInterface t x =>
  match M.und t, evT M tm t x with
  |some (.interface _), _ => none
  |some _, some v => k (.pure (.ifc t v))
  |_, _ => none
 | .makeFunc (.func f) first caps =>
  match first.toList, evs M tm [] caps.toList with
  |[], some l => k (.pure (.fn f l))
  |_, _ => none
 | .slice t x lo hi mx =>
  match evT M tm t x, evO M tm lo, evO M tm hi, evO M tm mx with
  |some (.dv (.val (.string s))), some l, some h, some q => match M.und t with | some .string => sliceE (.S s) l h q k | _ => none
  |some (.sl n ks rows r), some l, some h, some q => if elemOk M t ks then sliceE (.sl n ks rows r) l h q k else none
  |some (.ms j ks off n c), some l, some h, some q => if elemOk M t ks then sliceE (.ms j ks off n c) l h q k else none
  |_, _, _, _ => none
 | .fieldAddr s x f =>
  match field? M s f, evT M tm 0 x with
  |some (off, ft), some (.pl j o) => match M.size ft with | some n => if Nat.blt 0 n && !Nat.beq o mapOff && !Nat.beq (o + off) mapOff then k (.pure (.pl j (o + off))) else none | none => none
  |some (off, ft), some (.pv ks row o) => match M.size ft with | some n => if Nat.blt 0 n then k (.pure (.pv ks row (o + off))) else none | none => none
  |some (off, ft), some (.pa j ks i q) => match M.size ft with | some n => if Nat.blt 0 n then k (.pure (.pa j ks i (q + off))) else none | none => none
  |_, _ => none
 | .field s x f =>
  match field? M s f, evT M tm s x with
  |some (off, ft), some (.agg cs) =>
   match M.agg ft, M.size ft with
   |some true, some n => if Nat.ble (off + n) cs.length then k (.pure (.agg ((cs.drop off).take n))) else none
   |some false, some _ => match cs[off]? with | some v => k (.pure v) | none => none
   |_, _ => none
  |_, _ => none
 | .indexAddr t x i =>
  match evT M tm t x, evT M tm 0 i with
  |some (.sl _ ks rows _), some (.dv (.val (.int _ i))) =>
   if elemOk M t ks && Nat.blt 0 ks.length then if 0 ≤ i then if i < (rows.length : Int) then k (.pure (.pv ks (rows.getD i.toNat []) 0)) else none else none else none
  |some (.ms j ks off n _), some (.dv (.val (.int _ i))) =>
   if elemOk M t ks && Nat.blt 0 ks.length then if 0 ≤ i then if i < (n : Int) then k (.pure (.pa j ks (off + i.toNat) 0)) else none else none else none
  |some (.pl j o), some (.dv (.val (.int _ i))) =>
   match M.und t with
   |some (.array l e) => match M.size e with
    |some n => if 0 ≤ i then if i < (l : Int) then if Nat.blt (o + l * n) mapOff then k (.pure (.pl j (o + i.toNat * n))) else none else none else none
    |none => none
   |_ => none
  |_, _ => none
 | .index t x i =>
  match evT M tm t x, evT M tm 0 i with
  |some (.dv (.val (.string s))), some (.dv (.val (.int _ i))) =>
   match M.und t with
   |some .string => if 0 ≤ i then if i < (s.size : Int) then k (.pure (.I .u8 (bt s i))) else none else none
   |_ => none
  |some (.agg cs), some (.dv (.val (.int _ i))) =>
   match M.und t with
   |some (.array l e) => match  M.kds e, M.agg e, M.size e, AV.flats cs with
    |some [kd], some false, some 1, some row =>
     if Nat.beq cs.length l && Row.ofKds (List.replicate l kd) row then
      if 0 ≤ i then if i < (l : Int) then k (.pure (Row.cell kd row i.toNat)) else none else none
     else none
    |_, _, _, _ => none
   |_ => none
  |_, _ => none
 | .typeAssert x _ t false =>
  match M.und t, evT M tm 0 x with
  |some (.interface _), _ => none
  |some _, some (.ifc u v) => if Nat.beq u t then k (.pure v) else none
  |_, _ => none
 | .extract x i =>
  match evT M tm 0 x with
  |some (.tup vs) => match vs[i]? with | some v => k (.pure v) | none => none
  |_ => none
 | .panic x =>
  match evT M tm o.type x with
  |some (.ifc t v) => kp (.pure (.ifc t v))
  |_ => none
 | .call c =>
  match c.callee with
  | .builtin b => match evs M tm c.argTypes.toList c.args.toList with
   |some args => builtinE M m o.dst b c.argTypes.toList args k
   |none => none
  | .value f => match evT M tm 0 f, evs M tm c.argTypes.toList c.args.toList with
   |some (.fn f caps), some args => callE Φ m o.dst f (args ++ caps) k kp
   |_, _ => none
  |_ => none
 |_ => none

def stepE {R : Type} (o : Oper) (s : St) (k : St → Option R) (kp : AV → St → Option R) : Option R :=
 opE M Φ s.t s.m o (fun e => k (s.apply o.dst e)) (fun e => kp e.val (s.apply none e))

def touch (tm : List AV) (m : Mem) (o : Oper) : List Nat :=
 match o.op with
 | .load _ x => match evT M tm 0 x with | some (.pl j _) => [j] | some (.pa j _ _ _) => [j] | _ => []
 | .store _ x _ => match evT M tm 0 x with | some (.pl j _) => [j] | some (.pa j _ _ _) => [j] | _ => []
 | .lookup t x _ _ => match evT M tm t x with | some (.pl j _) => [j] | _ => []
 | .mapUpdate t x _ _ => match evT M tm t x with | some (.pl j _) => [j] | _ => []
 | .call c => match c.callee with
  | .value f => match evT M tm 0 f, evs M tm c.argTypes.toList c.args.toList with
   |some (.fn _ caps), some args => reach m (AV.slots (args ++ caps))
   |_, _ => []
  | .builtin .clear => match evs M tm c.argTypes.toList c.args.toList with | some args => AV.slots args | none => []
  | .builtin .copy => match evs M tm c.argTypes.toList c.args.toList with | some args => AV.slots args | none => []
  | .builtin .append => match evs M tm c.argTypes.toList c.args.toList with | some args => AV.slots args | none => []
  |_ => []
 |_ => []
def regD {R : Type} (kp : AV → St → Option R) (all : List Oper) (B : List (List Nat)) : List Oper → List El → St → (St → Option R) → Option R
 |[], _, s, k => k s
 |o :: rest, acc, s, k =>
  match o.guard with
  |none =>
   opE M Φ s.t s.m o (fun e =>
    regN B acc (El.of all B acc.length o e true (touch M s.t s.m o)) (s.apply o.dst e) (fun acc s => regD kp all B rest acc s k)) (fun e => regP kp all B acc o s e)
  |some (j, want) =>
   match guardTmp all j with
   |none => none
   |some d =>
    match s.t[d]? with
    |some (.dv (.val (.bool b))) =>
     match b, want with
     |true, true =>
      opE M Φ (s.t.set d (.B true)) s.m o (fun e =>
       regN B acc (El.of all B acc.length o e true (touch M (s.t.set d (.B true)) s.m o)) ((St.mk (s.t.set d (.B true)) s.m).apply o.dst e) (fun acc s => regD kp all B rest acc s k)) (fun _ => none)
     |false, false =>
      opE M Φ (s.t.set d (.B false)) s.m o (fun e =>
       regN B acc (El.of all B acc.length o e true (touch M (s.t.set d (.B false)) s.m o)) ((St.mk (s.t.set d (.B false)) s.m).apply o.dst e) (fun acc s => regD kp all B rest acc s k)) (fun _ => none)
     |true, false =>
      regN B acc (El.of all B acc.length o (.pure .junk) false []) ((St.mk (s.t.set d (.B true)) s.m).apply o.dst (.pure .junk)) (fun acc s => regD kp all B rest acc s k)
     |false, true =>
      regN B acc (El.of all B acc.length o (.pure .junk) false []) ((St.mk (s.t.set d (.B false)) s.m).apply o.dst (.pure .junk)) (fun acc s => regD kp all B rest acc s k)
    |_ => none
def regA {R : Type} (kp : AV → St → Option R) (ops : List Oper) (s : St) (k : St → Option R) : Option R :=
 if backs 0 ops then
  befsK ops [] fun B => match strikes ops B 0 ops with
  |(p, ks) => regD M Φ kp ops B ops [] (strike p ks s) k
 else none

def reg1 {R : Type} (all : List Oper) (o : Oper) (s : St) (k : St → Option R) (kp : AV → St → Option R) : Option R :=
  match o.guard with
  |none => stepE M Φ o s k kp
  |some (j, want) =>
   match guardTmp all j with
   |none => none
   |some d =>
    match s.t[d]? with
    |some (.dv (.val (.bool b))) =>
     match b, want with
     |true, true => stepE M Φ o { t := s.t.set d (.B true), m := s.m } k kp
     |false, false => stepE M Φ o { t := s.t.set d (.B false), m := s.m } k kp
     |true, false => k { t := setT (s.t.set d (.B true)) o.dst (.tup []), m := s.m }
     |false, true => k { t := setT (s.t.set d (.B false)) o.dst (.tup []), m := s.m }
    |some (.tup []) => k { t := setT s.t o.dst (.tup []), m := s.m }
    |_ => none
def regE {R : Type} (lv : Live) (all : List Oper) : List Oper → St → (St → Option R) → (AV → St → Option R) → Option R
 |[], s, k, _ => k s
 |o :: rest, s, k, kp => pre (opPrep lv o) s fun s => reg1 M Φ all o s (fun s' => regE lv all rest s' k kp) kp

def den {R : Type} (lv : Live) (n : Nat) : Code → (Ex → St → Option R) → St → Option R
 | .skip, K, s => K .normal s
 | .region id ops draw, K, s => pre (prep lv id) s fun s =>
  match draw with
  |false => regE M Φ lv ops.toList ops.toList s (fun s => s.force (fun s => K .normal s)) (fun v s => K (.pan v) s)
  |true => regA M Φ (fun v s => K (.pan v) s) ops.toList s (fun s => s.force (fun s => K .normal s))
 | .seq a b, K, s => den lv n a (fun e s' => match e with | .normal => den lv n b K s' | e => K e s') s
 | .cond c a b, K, s =>
  match evT M s.t 0 c with
  |some (.dv (.val (.bool x))) => match x with | true => den lv n a K s | false => den lv n b K s
  |_ => none
 | .block id b, K, s => den lv n b (fun e s' => match e with | .exit j => if Nat.beq j id then K .normal s' else K (.exit j) s' | e => K e s') s
 | .loop b, K, s =>
  match live lv (key b) with
  |some (tl, ml) => match norm tl ml s with
   |some s => loopE (key b) tl ml (fun K s => den lv n b K s) n K s
   |none => none
  |none => none
 | .exit id, K, s => K (.exit id) s
 | .ret, K, s => pre (prep lv 999998) s fun s => K .ret s
 | .scope b, K, s => den lv n b K s
 | .label _, K, s => K .normal s
 |_, _, _ => none

def find {R : Type} (lv : Live) (n : Nat) (q : Nat) : List Nat → Code → (Ex → St → Option R) → Option (LoopAt R)
 |left, .seq a b, K =>
  match find lv n q left a (fun e s' => match e with | .normal => den M Φ lv n b K s' | e => K e s') with
  |some r => some r
  |none => find lv n q left b K
 |left, .cond _ a b, K =>
  match find lv n q left a K with
  |some r => some r
  |none => find lv n q left b K
 |left, .scope b, K => find lv n q left b K
 |left, .block id b, K => find lv n q left b (fun e s' => match e with | .exit j => if Nat.beq j id then K .normal s' else K (.exit j) s' | e => K e s')
 |left, .loop b, K =>
  match live lv (key b) with
  |none => none
  |some (tl, ml) =>
   if Nat.beq (key b) q then some ⟨tl, ml, fun K s => den M Φ lv n b K s, K⟩ else
   match left with
   |[] => none
   |i :: left => find lv n q left b (fun e s' => match e with
    | .normal => match norm tl ml s' with
     |some s' => loopE (key b) tl ml (fun K s => den M Φ lv n b K s) i K s'
     |none => none
    |e => K e s')
 |_, _, _ => none

def resE {R : Type} (s : St) : List ResultVar → (List AV → Option R) → Option R
 |[], k => k []
 | .tmp t :: l, k => match s.t[t]? with
  |some v => resE s l fun vs => k (v :: vs)
  |none => none
 | .cell a t :: l, k => match s.t[a]? with
  |some v => loadE M s.m t v fun e => resE s l fun vs => k (e.val :: vs)
  |none => none
def fin {R : Type} (fn : Func) (keep : Bool) (ext : List (List AV)) (K : Out → Option R) (e : Ex) (s : St) : Option R :=
 match e with
 | .exit _ => none
 | .pan v => match extX s.m ext with
  |some ex => K ⟨true, v.bare, ex⟩
  |none => none
 |_ => resE M s fn.results.toList fun vs => match canon (keep && !lentX ext) vs, extX s.m ext with
  |some v, some ex => K ⟨false, v, ex⟩
  |_, _ => none
def denFn {R : Type} (lv : Live) (n : Nat) (fn : Func) (keep : Bool) (args : List AV) (ext : List (List AV)) (K : Out → Option R) : Option R :=
 match fn.body with
 |none => none
 |some c =>
  if Nat.ble args.length fn.ntmps && !((AV.hasTokL args || AV.hasTokLL ext) && anyPrep lv) then
   den M Φ lv n c (fin M fn keep ext K) { t := (match live lv 999999 with | some _ => AV.oldenL args | none => args) ++ List.replicate (fn.ntmps - args.length) .junk, m := zipExt 1000 ext }
  else none
def loopFn {R : Type} (lv : Live) (n : Nat) (fn : Func) (keep : Bool) (ext : List (List AV)) (K : Out → Option R) (q : Nat) (left : List Nat) (i : Nat) (s : St) : Option R :=
 match fn.body with
 |none => none
 |some c =>
  match find M Φ lv n q left c (fin M fn keep ext K) with
  |some r => loopE q r.tl r.ml r.body i r.K s
  |none => none
def ahead {R : Type} (lv : Live) (n : Nat) (kD : FuncId → List AV → Code → St → Option R) (K : Ex → St → Option R) : Code → St → Option R
 | .seq a b, s =>
  match deferOf a with
  |some (o1, f) => stepE M Φ o1 s (fun s => match evT M s.t 0 f with
   |some (.fn g caps) => kD g caps b s
   |_ => none) (fun v s => K (.pan v) s)
  |none => den M Φ lv n a (fun e s' => match e with | .normal => ahead lv n kD K b s' | e => K e s') s
 |_, _ => none
def denClo {R : Type} (lv : Live) (n : Nat) (fn : Func) (rv : AV) (args : List AV) (ext : List (List AV)) (K : Out → Option R) : Option R :=
 match fn.body with
 |some (.seq (.region _ ops false) b) =>
  match ops.toList with
  |o :: os =>
   match isRecover o && Nat.ble args.length fn.ntmps with
   |true => (St.mk (setT (args ++ List.replicate (fn.ntmps - args.length) .junk) o.dst rv) (zipExt 1000 ext)).force fun s => regE M Φ [] (o :: os) os s
     (fun s => s.force (fun s => den M Φ lv n b (fin M fn false ext K) s)) (fun v s => fin M fn false ext K (.pan v) s)
   |false => none
  |[] => none
 |_ => none
def leaveU {R : Type} (lvC : Live) (n : Nat) (fn g : Func) (gid : FuncId) (caps : List AV) (K : Out → Option R) (rv : List Nat → AV) (s : St) : Option R :=
 forceN (dedup (AV.slots caps)) fun ks =>
 match cellsOf s.m ks ks with
 |some ext => denClo M Φ lvC n g (rv ks) (AV.passL ks caps) ext (fun out => match out.pan with
  |false => (s.apply none (callEff ks none out)).force fun s => resE M s fn.results.toList fun vs => match canon false vs with
   |some v => match v.loose with
    |true => K ⟨false, v, []⟩
    |false => none
   |none => none
  |true => none)
 |none => none
def leaveE {R : Type} (lvC : Live) (n : Nat) (fn g : Func) (gid : FuncId) (caps : List AV) (K : Out → Option R) (e : Ex) (s : St) : Option R :=
 match e with
 | .exit _ => none
 | .pan v => leaveU M Φ lvC n fn g gid caps K (fun ks => AV.pass ks v) s
 |_ => leaveU M Φ lvC n fn g gid caps K (fun _ => .dv (.val .nilIface)) s
def denFnD {R : Type} (lv : Live) (n : Nat) (fn g : Func) (gid : FuncId) (lvC : Live) (args : List AV) (K : Out → Option R) : Option R :=
 match fn.body with
 |none => none
 |some c =>
  if Nat.ble args.length fn.ntmps && !(AV.hasTokL args) then
   ahead M Φ lv n (fun f caps b s =>
    forceN (dedup (AV.slots s.t)) fun ks => AV.forceL (AV.passL ks caps) fun caps =>
    match Nat.beq f gid && allPl caps, cellsOf s.m ks ks with
    |true, some ext => (St.mk (AV.passL ks s.t) (zipExt 1000 ext)).force fun s => den M Φ lv n b (leaveE M Φ lvC n fn g gid caps K) s
    |_, _ => none) (fin M fn false [] K) c { t := args ++ List.replicate (fn.ntmps - args.length) .junk, m := zipExt 1000 [] }
  else none
def loopFnD {R : Type} (lv : Live) (n : Nat) (fn g : Func) (gid : FuncId) (lvC : Live) (caps : List AV) (K : Out → Option R) (q : Nat) (left : List Nat) (i : Nat) (s : St) : Option R :=
 match fn.body with
 |none => none
 |some c =>
  match behind c with
  |none => none
  |some b =>
   match find M Φ lv n q left b (leaveE M Φ lvC n fn g gid caps K) with
   |some r => loopE q r.tl r.ml r.body i r.K s
   |none => none
end
end Go.Den.DM
namespace Go.Den
theorem dm_denFn_eq (P : Program) (Φ : Orc) {R : Type} : @DM.denFn (Memo.std P) Φ R = @denFn P Φ R := by kernel_rfl
theorem dm_denFnD_eq (P : Program) (Φ : Orc) {R : Type} : @DM.denFnD (Memo.std P) Φ R = @denFnD P Φ R := by kernel_rfl

inductive BT (α : Type) where
 |nil
 |one (k : Nat) (v : α)
 |node (k : Nat) (l r : BT α)
def BT.get {α : Type} : BT α → Nat → Option α
 | .nil, _ => none
 | .one k v, t => match Nat.beq t k with | true => some v | false => none
 | .node k l r, t => match Nat.ble k t with | true => r.get t | false => l.get t
def BT.toList {α : Type} : BT α → List (Nat × α)
 | .nil => []
 | .one k v => [(k, v)]
 | .node _ l r => l.toList ++ r.toList
theorem BT.get_mem {α : Type} : ∀ {b : BT α} {t : Nat} {v : α}, b.get t = some v → (t, v) ∈ b.toList
 | .nil, t, v, h => by cases h
 | .one k u, t, v, h => by
  simp only [BT.get] at h
  split at h
  ·rename_i hk; cases h; simp only [beq_eq] at hk; subst hk; exact List.mem_cons_self
  ·cases h
 | .node k l r, t, v, h => by
  simp only [BT.get] at h
  split at h
  ·exact List.mem_append_right _ (BT.get_mem h)
  ·exact List.mem_append_left _ (BT.get_mem h)
def memo {α : Type} (b : BT α) (f : Nat → α) (t : Nat) : α :=
 match b.get t with
 |some v => v
 |none => f t
theorem memo_eq {α : Type} {b : BT α} {f : Nat → α} (h : b.toList.map (fun p => f p.1) = b.toList.map (fun p => p.2)) : memo b f = f := by
 funext t
 unfold memo
 cases hg : b.get t with
 |none => rfl
 |some v =>
  have hm := BT.get_mem hg
  have : ∀ p ∈ b.toList, f p.1 = p.2 := by
   intro p hp
   obtain ⟨i, hi, rfl⟩ := List.getElem_of_mem hp
   have h1 := congrArg (fun l => l[i]?) h
   simp only [List.getElem?_map, List.getElem?_eq_getElem hi, Option.map_some, Option.some.injEq] at h1
   exact h1
  exact (this _ hm).symm
theorem auto_okM {P : Program} {M : Memo} (hM : M = Memo.std P) {Φ : Orc} (hΦ : OSound P Φ) (hp : Pick Φ) (hmix : P.follows .mixedOrders = true) {f : FuncId} {fn : Func} (hf : P.funcs[f]? = some fn) (hname : fn.name ≠ "runtime.NumGoroutine") {lv : Live} {n : Nat} {keep : Bool}
  {args : List AV} {ext : List (List AV)} {o : OSh} {y : o.ty} (h : DM.denFn M Φ lv n fn keep args ext o.chk = some y) : Contract P f args ext (o.enc y) := by
 subst hM
 rw [dm_denFn_eq] at h
 exact auto_ok hΦ hp hmix hf hname h
theorem autoD_okM {P : Program} {M : Memo} (hM : M = Memo.std P) {Φ : Orc} (hΦ : OSound P Φ) (hmix : P.follows .mixedOrders = true) {f : FuncId} {fn : Func} (hf : P.funcs[f]? = some fn) (hname : fn.name ≠ "runtime.NumGoroutine") {gid : FuncId} {g : Func} (hg : P.funcs[gid]? = some g)
  (hgb : g.body.isSome = true) (hgn : g.name ≠ "runtime.NumGoroutine") {lv lvC : Live} {n : Nat} {args : List AV} {o : OSh} {y : o.ty} (h : DM.denFnD M Φ lv n fn g gid lvC args o.chk = some y) : Contract P f args [] (o.enc y) := by
 subst hM
 rw [dm_denFnD_eq] at h
 exact autoD_ok hΦ hmix hf hname hg hgb hgn h
end Go.Den
namespace Go.Den
open Go.Sort
theorem Inv.grown {P : Program} {w w' : World} {x : X} {E L : List Nat} (hI : Inv ⟨P, w, x, E, [], L⟩ x w (zipExt 1000 [])) (htk : ∀ k, x.tk k = none) (ho : w'.os = w.os) (ht : w'.tape = w.tape) (hu : w'.output = w.output) (hs : w.heap.size ≤ w'.heap.size)
  (hh : ∀ b, b < w.heap.size → w'.heap[b]? = w.heap[b]?) (hd : w.drawn ≤ w'.drawn) : Inv ⟨P, w, x, E, [], L⟩ x w' (zipExt 1000 []) where
 sub b o v hv := by rw [World.cell?_of_block (w := w) (hh b (hI.lt hv))]; exact hI.sub b o v hv
 slot k cs hk := by simp [zipExt, lookup] at hk
 inj k k' cs cs' b hk := by simp [zipExt, lookup] at hk
 tok k v sz hk := by rw [htk] at hk; cases hk
 tokslot k a n c sz j cs hk := by rw [htk] at hk; cases hk
 toktok k k' a n c sz a' n' c' sz' hk := by rw [htk] at hk; cases hk
 os := ho
 tape := ht
 output := hu
 size := hs
 old b hb _ _ := hh b hb
 mono := Sub.refl _
 new b o v hv := .inl hv
 ext k _ := rfl
 low := hI.low
 more := ⟨fun k b cs hk => by simp [zipExt, lookup] at hk, fun _ _ => rfl, hI.more.M0, fun k b cs arr ty hk => by simp [zipExt, lookup] at hk, hd⟩
 glob := hI.glob
theorem itoa_contract {P : Program} {f : FuncId} {nm : String} (hf : ∃ fn, P.funcs[f]? = some fn ∧ fn.body.isSome = true ∧ fn.name ≠ "runtime.NumGoroutine") (hg : globB P = some 0) (hn : P.globalNamed nm = some 0) (j : Int)
  (hc : ∀ w, Go.Lib.TabIs P w nm .u64 Go.Lib.pow10Tab → Calls P f #[.int .i64 j] w fun e w' => e = .returned (.string ⟨(Go.Lib.itoa j).toArray⟩) ∧ ∃ k os, w' = grow (w.drewN k) os) :
  Contract P f [.dv (.val (.int .i64 j))] [] ⟨false, .dv (.val (.string ⟨(Go.Lib.itoa j).toArray⟩)), []⟩ := by
 refine ⟨hf, fun w x E L vs htok hI hR => ?_⟩
 obtain ⟨_, htk⟩ := htok rfl
 cases hR with | cons _ v1 _ vs1 h1 h2 =>
 cases h2
 cases h1 with | dv _ _ hd =>
 cases hd
 obtain ⟨⟨ty, fr, g1⟩, _, _, _⟩ := hI.glob 0 hg
 have htab : Go.Lib.TabIs P w nm .u64 Go.Lib.pow10Tab := by
  unfold Go.Lib.TabIs World.var?
  rw [hn]
  show (match w.heap[0]? with | some (.cells cs _ _) => some cs | _ => none) = _
  rw [g1]
 refine (hc w htab).mono ?_
 rintro en w' ⟨rfl, k, os, rfl⟩
 refine ⟨x, _, rfl, rfl, ?_, .dv _ _ (.val _ rfl)⟩
 refine hI.grown htk rfl rfl rfl (by rw [size_grow]; exact Nat.le_add_right _ _) (fun b hb => heap_grow_old _ _ hb) ?_
 show w.drawn ≤ w.drawn + k
 omega
end Go.Den
namespace Go.Den
open Go.ChangeShapes Go.WideShapes Go.ChangeAt Go.RowKit
theorem lifted_of_laid {C : Checked} {os : Os} (started : os.Started) {H : Type} {enc : TypeId × Value → H} {f : FuncId} {fn : Func} {s : ChangeSpec} {laid : List (String × DataW Unit)}
  (own : ownKnob C.prog.godebug = none) (noInit : C.prog.inits.idxOf? f = none) (hfn : C.prog.funcs[f]? = some fn)
  (witness : ∃ (w : World) (tape : Tape) (i : Input), w.os = os ∧ (w.forCall tape i).Shaped C.prog ∧ i.vars = [] ∧ Input.okWide C.prog (w.forCall tape i) .any w.heap.size f i ∧
   ((s.pre enc C.prog fn [] false (w.forCall tape i).memory i.args ∧ laidMetH C.prog laid (w.forCall tape i).memory) ∧ sizedMet enc C.prog fn (OpenSpec.ofChange s) false (w.forCall tape i).memory i.args) ∧ ({} : Assume).holds C.prog (lone (Frame.enter C.prog f i.args .normal) [] (w.forCall tape i)))
  (laidOk : laidOutB C.prog = true) {ts : List TypeId} (hts : fn.params.toList = ts) (hread : ts.all (fun t => C.prog.readableRec t && Nat.blt t C.prog.types.size && (kdsT C.prog 9 t).isSome) = true)
  (hvars : s.vars = []) (hspec : ∀ ds : List (DataW H), ds.length = ts.length → s.fn H ds = { results := [.lit (.bool true)], args := ds })
  {rt : TypeId} (hres : fn.resultTypes = #[rt]) (hrt : C.prog.underlying rt = some .bool)
  (contract : ∀ rows, Fits C.prog ts rows → Contract C.prog f (argsA C.prog ts rows) [] ⟨false, .B true, []⟩)
  (hg : globB C.prog = some 0) (hG : ∀ W, laidMetH C.prog laid W → ∃ ty fr, W.heap[0]? = some (.cells (Go.Lib.pow10Tab.map (Value.int .u64)).toArray ty fr)) :
  ReturnsInHanded {} C os f .any (fun w args => (s.pre enc C.prog fn [] false w args ∧ laidMetH C.prog laid w) ∧ sizedMet enc C.prog fn (OpenSpec.ofChange s) false w args) (s.post enc C.prog fn false true false false) := by
 refine returnsInHanded_of_change_and (X := fun w _ => laidMetH C.prog laid w) (fun _ _ _ hh h => h.of_heap hh) own started noInit hfn witness ?_
 intro W base args ds gs before hval hW _ hsz hL _
 have hW' := hW
 obtain ⟨p, q, hA, hV, rfl, hfz, hnd⟩ := hW
 rw [hvars] at hV
 obtain ⟨rfl, rfl⟩ := trodVars_none hV
 rw [hts] at hA hsz
 have hall := List.all_eq_true.1 hread
 have h1 : ∀ t ∈ ts, (kdsT C.prog 9 t).isSome = true := fun t ht => by have := hall t ht; simp only [Bool.and_eq_true] at this; exact this.2
 have h2 : ∀ t ∈ ts, C.prog.readableRec t = true ∧ t < C.prog.types.size := fun t ht => by have := hall t ht; simp only [Bool.and_eq_true, Nat.blt_eq] at this; exact this.1
 obtain ⟨rows, hfit, hrep⟩ := open_args (loc := fun _ => none) (tk := fun _ => none) (cap := fun _ => 0) (M0 := cellsM W) ts args.toList ds [] (s.plain.varTypes C.prog) p h1
  (fun j t v ht hv => hval j t v (by rw [← Array.getElem?_toList, hts]; exact ht) (by rw [← Array.getElem?_toList]; exact hv)) hA (fun q hq => by simpa using List.all_eq_true.1 hsz q hq)
 have hlen : ds.length = ts.length := by
  exact trodAll_length ts _ _ _ hA
 obtain ⟨ty, fr, hG0⟩ := hG W hL
 have hglob : GlobOk ⟨C.prog, W, ⟨cellsM W, fun _ => none, fun _ => none, fun _ => 0, cellsM W⟩, [], [], []⟩ := fun g h => by
  have h : globB C.prog = some g := h
  rw [hg] at h
  cases h
  refine ⟨⟨ty, fr, hG0⟩, ⟨.int .u64 1, ?_⟩, by simp, by simp⟩
  show W.cell? ⟨0, 0, none⟩ = _
  unfold World.cell?
  show (match W.heap[0]? with | some (.cells c _ _) => if (none : Option Nat).isSome then none else c[0]? | _ => none) = _
  rw [hG0]
  simp [Go.Lib.pow10Tab]
 have hc := (contract rows hfit).2 W ⟨cellsM W, fun _ => none, fun _ => none, fun _ => 0, cellsM W⟩ [] [] args.toList (fun _ => ⟨rfl, fun _ => rfl⟩) (inv_start _ W hglob) hrep
 refine hc.mono ?_
 rintro e W' ⟨x', v, _, rfl, hI, hv⟩
 have hv' : v = .bool true := by
  cases hv with
  |dv _ _ h => cases h; rfl
 subst hv'
 have bel : Below W.heap.size W W' := ⟨hI.os, hI.tape, hI.output, hI.size, fun k hk => hI.old k hk (by simp) (by simp)⟩
 refine ⟨_, rfl, ds, [], _, [], p, [], hW', ?_, ?_, ?_, bel.frame _, fun h => by cases h⟩
 ·rw [List.append_nil, hspec ds hlen, hres]
  exact trodAll_mk1 (shut_bool hrt _)
 ·rw [List.append_nil, hspec ds hlen, hts]
  exact back_args laidOk bel ts _ _ _ h2 hA
 ·rw [List.append_nil, hspec ds hlen, hvars]
  rfl
theorem glob_of_tab {P : Program} {W : World} {nm : String} (hn : P.globalNamed nm = some 0) (h : Go.Lib.TabIs P W nm .u64 Go.Lib.pow10Tab) : ∃ ty fr, W.heap[0]? = some (.cells (Go.Lib.pow10Tab.map (Value.int .u64)).toArray ty fr) := by
 unfold Go.Lib.TabIs World.var? at h
 rw [hn] at h
 simp only [Option.bind_some] at h
 split at h
 ·rename_i cs ty fr hb
  cases h
  exact ⟨ty, fr, hb⟩
 ·cases h
end Go.Den
namespace Go.Den
open Go.Proofs
set_option maxRecDepth 100000
@[reducible] def kdT : List Kd := [Kd.s, Kd.b, Kd.i IntKind.i64, Kd.s]
@[reducible] def kdL : List Kd := [Kd.s, Kd.b, Kd.i IntKind.i64, Kd.s, Kd.s, Kd.sl kdT, Kd.s, Kd.b, Kd.i IntKind.i64, Kd.s]
@[reducible] def kdR : List Kd := [Kd.s, Kd.b, Kd.i IntKind.i64, Kd.s, Kd.s, Kd.sl kdT, Kd.s, Kd.b, Kd.i IntKind.i64, Kd.s, Kd.sl kdL]
@[reducible] def kdC : List Kd := [Kd.b, Kd.i IntKind.i64, Kd.s]
@[reducible] def kdF : List Kd := [Kd.s, Kd.s, Kd.s, Kd.sl kdC]
@[reducible] def kdK : List Kd := [Kd.i IntKind.i64, Kd.s, Kd.i IntKind.i64, Kd.i IntKind.i64]
@[reducible] def aS (s : ByteArray) : AV := AV.dv (DV.val (Value.string s))
@[reducible] def aB (b : Bool) : AV := AV.dv (DV.val (Value.bool b))
@[reducible] def aI (z : Int) : AV := AV.dv (DV.val (Value.int .i64 z))
@[reducible] def jk (n : Nat) : List AV := List.replicate n AV.junk
@[reducible] def zI : AV := AV.dv (DV.val (Value.int IntKind.i64 0))
@[reducible] def zS : AV := AV.dv (DV.val (Value.string (ByteArray.mk #[])))
@[reducible] def zB : AV := AV.dv (DV.val (Value.bool false))
@[reducible] def zP : AV := AV.dv (DV.val (Value.pointer none))
@[reducible] def z8 : AV := AV.dv (DV.val (Value.int IntKind.u8 0))
@[reducible] def zN : AV := AV.dv (DV.val Value.nilIface)
@[reducible] def zF : AV := AV.dv (DV.val Value.nilFunc)
@[reducible] def zL : List Kd → Rows → Right → AV := AV.sl true
@[reducible] def kdO : List Kd := [Kd.o]
@[reducible] def Jk : AV := AV.junk
@[reducible] def hsL : List Nat := [1000048, 1000080, 1000081, 1000082, 1000083, 1000084, 1000093, 1000099, 1000102, 1000132]
theorem mixed : Tryz.prog.follows .mixedOrders = true := by kernel_rfl
noncomputable def tm_kds : BT (Option (List Kd)) := .node 78 (.node 52 (.node 20 (.node 3 (.node 1 (.one 0 (none)) (.node 2 (.one 1 (some kdO)) (.one 2 (some [Kd.i IntKind.i64])))) (.node 5 (.node 4 (.one 3 (some [Kd.i IntKind.i64])) (.one 4 (some [Kd.b]))) (.node 9 (.one 5 (some [Kd.i IntKind.u8])) (.one 9 (some [Kd.s]))))) (.node 27 (.node 22 (.one 20 (some kdO)) (.node 26 (.one 22 (some [Kd.sl kdR])) (.one 26 (some [Kd.i IntKind.i64])))) (.node 50 (.node 32 (.one 27 (none)) (.one 32 (some [Kd.sl [Kd.s]]))) (.node 51 (.one 50 (some kdC)) (.one 51 (some kdC)))))) (.node 59 (.node 55 (.node 53 (.one 52 (some kdT)) (.node 54 (.one 53 (some kdT)) (.one 54 (some [Kd.sl kdT])))) (.node 57 (.node 56 (.one 55 (some [Kd.sl kdL])) (.one 56 (some kdR))) (.node 58 (.one 57 (some kdR)) (.one 58 (some kdL))))) (.node 73 (.node 62 (.node 60 (.one 59 (some kdL)) (.one 60 (none))) (.node 72 (.one 62 (none)) (.one 72 (some [Kd.sl kdK])))) (.node 76 (.node 75 (.one 73 (none)) (.one 75 (some kdO))) (.node 77 (.one 76 (some [Kd.sl kdK, Kd.i IntKind.i64])) (.one 77 (some [Kd.sl kdK, Kd.i IntKind.i64]))))))) (.node 132 (.node 117 (.node 84 (.node 79 (.one 78 (some [Kd.i IntKind.i64, Kd.i IntKind.i64])) (.node 83 (.one 79 (some [Kd.i IntKind.i64, Kd.i IntKind.i64])) (.one 83 (some kdO)))) (.node 94 (.node 93 (.one 84 (none)) (.one 93 (some [Kd.sl [Kd.s, Kd.i IntKind.i64]]))) (.node 116 (.one 94 (none)) (.one 116 (some kdK))))) (.node 128 (.node 126 (.node 118 (.one 117 (some kdK)) (.one 118 (none))) (.node 127 (.one 126 (some kdO)) (.one 127 (some kdO)))) (.node 130 (.node 129 (.one 128 (some [Kd.sl [Kd.i IntKind.u8]])) (.one 129 (some [Kd.o, Kd.sl [Kd.i IntKind.u8]]))) (.node 131 (.one 130 (some [Kd.o, Kd.sl [Kd.i IntKind.u8]])) (.one 131 (some [Kd.o, Kd.sl [Kd.i IntKind.u8], Kd.b])))))) (.node 144 (.node 136 (.node 134 (.one 132 (some [Kd.o, Kd.sl [Kd.i IntKind.u8], Kd.b])) (.node 135 (.one 134 (some kdO)) (.one 135 (some kdO)))) (.node 142 (.node 140 (.one 136 (none)) (.one 140 (some kdO))) (.node 143 (.one 142 (some kdO)) (.one 143 (none))))) (.node 172 (.node 150 (.node 147 (.one 144 (some kdO)) (.one 147 (some kdO))) (.node 153 (.one 150 (none)) (.one 153 (none)))) (.node 181 (.node 175 (.one 172 (some kdO)) (.one 175 (none))) (.node 182 (.one 181 (some [Kd.s, Kd.i IntKind.i64])) (.one 182 (some [Kd.s, Kd.i IntKind.i64])))))))
noncomputable def tm_zero : BT (Option (List AV)) := .node 78 (.node 52 (.node 20 (.node 3 (.node 1 (.one 0 (none)) (.node 2 (.one 1 (some [zF])) (.one 2 (some [zI])))) (.node 5 (.node 4 (.one 3 (some [zI])) (.one 4 (some [zB]))) (.node 9 (.one 5 (some [z8])) (.one 9 (some [AV.dv (DV.val (Value.string { data := #[] }))]))))) (.node 27 (.node 22 (.one 20 (some [zN])) (.node 26 (.one 22 (some [zL kdR [] Right.ex])) (.one 26 (some [zI])))) (.node 50 (.node 32 (.one 27 (none)) (.one 32 (some [zL [Kd.s] [] Right.ex]))) (.node 51 (.one 50 (some [zB, zI, AV.dv (DV.val (Value.string { data := #[] }))])) (.one 51 (some [zB, zI, AV.dv (DV.val (Value.string { data := #[] }))])))))) (.node 59 (.node 55 (.node 53 (.one 52 (some [AV.dv (DV.val (Value.string { data := #[] })), zB, zI, AV.dv (DV.val (Value.string { data := #[] }))])) (.node 54 (.one 53 (some [AV.dv (DV.val (Value.string { data := #[] })), zB, zI, AV.dv (DV.val (Value.string { data := #[] }))])) (.one 54 (some [zL kdT [] Right.ex])))) (.node 57 (.node 56 (.one 55 (some [zL kdL [] Right.ex])) (.one 56 (some [AV.dv (DV.val (Value.string { data := #[] })), zB, zI, AV.dv (DV.val (Value.string { data := #[] })), AV.dv (DV.val (Value.string { data := #[] })), zL kdT [] Right.ex, AV.dv (DV.val (Value.string { data := #[] })), zB, zI, AV.dv (DV.val (Value.string { data := #[] })), zL kdL [] Right.ex]))) (.node 58 (.one 57 (some [AV.dv (DV.val (Value.string { data := #[] })), zB, zI, AV.dv (DV.val (Value.string { data := #[] })), AV.dv (DV.val (Value.string { data := #[] })), zL kdT [] Right.ex, AV.dv (DV.val (Value.string { data := #[] })), zB, zI, AV.dv (DV.val (Value.string { data := #[] })), zL kdL [] Right.ex])) (.one 58 (some [AV.dv (DV.val (Value.string { data := #[] })), zB, zI, AV.dv (DV.val (Value.string { data := #[] })), AV.dv (DV.val (Value.string { data := #[] })), zL kdT [] Right.ex, AV.dv (DV.val (Value.string { data := #[] })), zB, zI, AV.dv (DV.val (Value.string { data := #[] }))]))))) (.node 73 (.node 62 (.node 60 (.one 59 (some [AV.dv (DV.val (Value.string { data := #[] })), zB, zI, AV.dv (DV.val (Value.string { data := #[] })), AV.dv (DV.val (Value.string { data := #[] })), zL kdT [] Right.ex, AV.dv (DV.val (Value.string { data := #[] })), zB, zI, AV.dv (DV.val (Value.string { data := #[] }))])) (.one 60 (none))) (.node 72 (.one 62 (none)) (.one 72 (some [zL kdK [] Right.ex])))) (.node 76 (.node 75 (.one 73 (none)) (.one 75 (some [zP]))) (.node 77 (.one 76 (some [zL kdK [] Right.ex, zI])) (.one 77 (some [zL kdK [] Right.ex, zI]))))))) (.node 132 (.node 117 (.node 84 (.node 79 (.one 78 (some [zI, zI])) (.node 83 (.one 79 (some [zI, zI])) (.one 83 (some [AV.dv (DV.val (Value.map none))])))) (.node 94 (.node 93 (.one 84 (none)) (.one 93 (some [zL [Kd.s, Kd.i IntKind.i64] [] Right.ex]))) (.node 116 (.one 94 (none)) (.one 116 (some [zI, AV.dv (DV.val (Value.string { data := #[] })), zI, zI]))))) (.node 128 (.node 126 (.node 118 (.one 117 (some [zI, AV.dv (DV.val (Value.string { data := #[] })), zI, zI])) (.one 118 (none))) (.node 127 (.one 126 (some [zP])) (.one 127 (some [zP])))) (.node 130 (.node 129 (.one 128 (some [zL [Kd.i IntKind.u8] [] Right.ex])) (.one 129 (some [zP, zL [Kd.i IntKind.u8] [] Right.ex]))) (.node 131 (.one 130 (some [zP, zL [Kd.i IntKind.u8] [] Right.ex])) (.one 131 (some [zP, zL [Kd.i IntKind.u8] [] Right.ex, zB])))))) (.node 144 (.node 136 (.node 134 (.one 132 (some [zP, zL [Kd.i IntKind.u8] [] Right.ex, zB])) (.node 135 (.one 134 (some [zN])) (.one 135 (some [zN])))) (.node 142 (.node 140 (.one 136 (none)) (.one 140 (some [zF]))) (.node 143 (.one 142 (some [zF])) (.one 143 (none))))) (.node 172 (.node 150 (.node 147 (.one 144 (some [zF])) (.one 147 (some [zF]))) (.node 153 (.one 150 (none)) (.one 153 (none)))) (.node 181 (.node 175 (.one 172 (some [zF])) (.one 175 (none))) (.node 182 (.one 181 (some [AV.dv (DV.val (Value.string { data := #[] })), zI])) (.one 182 (some [AV.dv (DV.val (Value.string { data := #[] })), zI])))))))
noncomputable def tm_plain : BT (Option (List Kd)) := .node 78 (.node 52 (.node 20 (.node 3 (.node 1 (.one 0 (none)) (.node 2 (.one 1 (none)) (.one 2 (some [Kd.i IntKind.i64])))) (.node 5 (.node 4 (.one 3 (some [Kd.i IntKind.i64])) (.one 4 (some [Kd.b]))) (.node 9 (.one 5 (some [Kd.i IntKind.u8])) (.one 9 (some [Kd.s]))))) (.node 27 (.node 22 (.one 20 (none)) (.node 26 (.one 22 (none)) (.one 26 (some [Kd.i IntKind.i64])))) (.node 50 (.node 32 (.one 27 (none)) (.one 32 (none))) (.node 51 (.one 50 (some kdC)) (.one 51 (some kdC)))))) (.node 59 (.node 55 (.node 53 (.one 52 (some kdT)) (.node 54 (.one 53 (some kdT)) (.one 54 (none)))) (.node 57 (.node 56 (.one 55 (none)) (.one 56 (none))) (.node 58 (.one 57 (none)) (.one 58 (none))))) (.node 73 (.node 62 (.node 60 (.one 59 (none)) (.one 60 (none))) (.node 72 (.one 62 (none)) (.one 72 (none)))) (.node 76 (.node 75 (.one 73 (none)) (.one 75 (none))) (.node 77 (.one 76 (none)) (.one 77 (none))))))) (.node 132 (.node 117 (.node 84 (.node 79 (.one 78 (some [Kd.i IntKind.i64, Kd.i IntKind.i64])) (.node 83 (.one 79 (some [Kd.i IntKind.i64, Kd.i IntKind.i64])) (.one 83 (none)))) (.node 94 (.node 93 (.one 84 (none)) (.one 93 (none))) (.node 116 (.one 94 (none)) (.one 116 (some kdK))))) (.node 128 (.node 126 (.node 118 (.one 117 (some kdK)) (.one 118 (none))) (.node 127 (.one 126 (none)) (.one 127 (none)))) (.node 130 (.node 129 (.one 128 (none)) (.one 129 (none))) (.node 131 (.one 130 (none)) (.one 131 (none)))))) (.node 144 (.node 136 (.node 134 (.one 132 (none)) (.node 135 (.one 134 (none)) (.one 135 (none)))) (.node 142 (.node 140 (.one 136 (none)) (.one 140 (none))) (.node 143 (.one 142 (none)) (.one 143 (none))))) (.node 172 (.node 150 (.node 147 (.one 144 (none)) (.one 147 (none))) (.node 153 (.one 150 (none)) (.one 153 (none)))) (.node 181 (.node 175 (.one 172 (none)) (.one 175 (none))) (.node 182 (.one 181 (some [Kd.s, Kd.i IntKind.i64])) (.one 182 (some [Kd.s, Kd.i IntKind.i64])))))))
noncomputable def tm_guard : BT (Bool) := .node 78 (.node 52 (.node 20 (.node 3 (.node 1 (.one 0 (false)) (.node 2 (.one 1 (false)) (.one 2 (false)))) (.node 5 (.node 4 (.one 3 (false)) (.one 4 (false))) (.node 9 (.one 5 (false)) (.one 9 (false))))) (.node 27 (.node 22 (.one 20 (false)) (.node 26 (.one 22 (false)) (.one 26 (false)))) (.node 50 (.node 32 (.one 27 (false)) (.one 32 (false))) (.node 51 (.one 50 (false)) (.one 51 (false)))))) (.node 59 (.node 55 (.node 53 (.one 52 (false)) (.node 54 (.one 53 (false)) (.one 54 (false)))) (.node 57 (.node 56 (.one 55 (false)) (.one 56 (false))) (.node 58 (.one 57 (false)) (.one 58 (false))))) (.node 73 (.node 62 (.node 60 (.one 59 (false)) (.one 60 (false))) (.node 72 (.one 62 (false)) (.one 72 (false)))) (.node 76 (.node 75 (.one 73 (false)) (.one 75 (false))) (.node 77 (.one 76 (false)) (.one 77 (false))))))) (.node 132 (.node 117 (.node 84 (.node 79 (.one 78 (false)) (.node 83 (.one 79 (false)) (.one 83 (false)))) (.node 94 (.node 93 (.one 84 (false)) (.one 93 (false))) (.node 116 (.one 94 (false)) (.one 116 (false))))) (.node 128 (.node 126 (.node 118 (.one 117 (false)) (.one 118 (false))) (.node 127 (.one 126 (false)) (.one 127 (false)))) (.node 130 (.node 129 (.one 128 (false)) (.one 129 (false))) (.node 131 (.one 130 (false)) (.one 131 (false)))))) (.node 144 (.node 136 (.node 134 (.one 132 (false)) (.node 135 (.one 134 (true)) (.one 135 (true)))) (.node 142 (.node 140 (.one 136 (false)) (.one 140 (false))) (.node 143 (.one 142 (false)) (.one 143 (false))))) (.node 172 (.node 150 (.node 147 (.one 144 (false)) (.one 147 (false))) (.node 153 (.one 150 (false)) (.one 153 (false)))) (.node 181 (.node 175 (.one 172 (false)) (.one 175 (false))) (.node 182 (.one 181 (false)) (.one 182 (false)))))))
noncomputable def tm_size : BT (Option Nat) := .node 78 (.node 52 (.node 20 (.node 3 (.node 1 (.one 0 (some 1)) (.node 2 (.one 1 (some 1)) (.one 2 (some 1)))) (.node 5 (.node 4 (.one 3 (some 1)) (.one 4 (some 1))) (.node 9 (.one 5 (some 1)) (.one 9 (some 1))))) (.node 27 (.node 22 (.one 20 (some 1)) (.node 26 (.one 22 (some 1)) (.one 26 (some 1)))) (.node 50 (.node 32 (.one 27 (some 1)) (.one 32 (some 1))) (.node 51 (.one 50 (some 3)) (.one 51 (some 3)))))) (.node 59 (.node 55 (.node 53 (.one 52 (some 4)) (.node 54 (.one 53 (some 4)) (.one 54 (some 1)))) (.node 57 (.node 56 (.one 55 (some 1)) (.one 56 (some 11))) (.node 58 (.one 57 (some 11)) (.one 58 (some 10))))) (.node 73 (.node 62 (.node 60 (.one 59 (some 10)) (.one 60 (some 1))) (.node 72 (.one 62 (some 1)) (.one 72 (some 1)))) (.node 76 (.node 75 (.one 73 (some 1)) (.one 75 (some 1))) (.node 77 (.one 76 (some 2)) (.one 77 (some 2))))))) (.node 132 (.node 117 (.node 84 (.node 79 (.one 78 (some 2)) (.node 83 (.one 79 (some 2)) (.one 83 (some 1)))) (.node 94 (.node 93 (.one 84 (some 1)) (.one 93 (some 1))) (.node 116 (.one 94 (some 1)) (.one 116 (some 4))))) (.node 128 (.node 126 (.node 118 (.one 117 (some 4)) (.one 118 (some 1))) (.node 127 (.one 126 (some 1)) (.one 127 (some 1)))) (.node 130 (.node 129 (.one 128 (some 1)) (.one 129 (some 2))) (.node 131 (.one 130 (some 2)) (.one 131 (some 3)))))) (.node 144 (.node 136 (.node 134 (.one 132 (some 3)) (.node 135 (.one 134 (some 1)) (.one 135 (some 1)))) (.node 142 (.node 140 (.one 136 (some 1)) (.one 140 (some 1))) (.node 143 (.one 142 (some 1)) (.one 143 (some 1))))) (.node 172 (.node 150 (.node 147 (.one 144 (some 1)) (.one 147 (some 1))) (.node 153 (.one 150 (some 1)) (.one 153 (some 1)))) (.node 181 (.node 175 (.one 172 (some 1)) (.one 175 (some 1))) (.node 182 (.one 181 (some 2)) (.one 182 (some 2)))))))
noncomputable def tm_agg : BT (Option Bool) := .node 78 (.node 52 (.node 20 (.node 3 (.node 1 (.one 0 (some false)) (.node 2 (.one 1 (some false)) (.one 2 (some false)))) (.node 5 (.node 4 (.one 3 (some false)) (.one 4 (some false))) (.node 9 (.one 5 (some false)) (.one 9 (some false))))) (.node 27 (.node 22 (.one 20 (some false)) (.node 26 (.one 22 (some false)) (.one 26 (some false)))) (.node 50 (.node 32 (.one 27 (some false)) (.one 32 (some false))) (.node 51 (.one 50 (some true)) (.one 51 (some true)))))) (.node 59 (.node 55 (.node 53 (.one 52 (some true)) (.node 54 (.one 53 (some true)) (.one 54 (some false)))) (.node 57 (.node 56 (.one 55 (some false)) (.one 56 (some true))) (.node 58 (.one 57 (some true)) (.one 58 (some true))))) (.node 73 (.node 62 (.node 60 (.one 59 (some true)) (.one 60 (some false))) (.node 72 (.one 62 (some false)) (.one 72 (some false)))) (.node 76 (.node 75 (.one 73 (some false)) (.one 75 (some false))) (.node 77 (.one 76 (some true)) (.one 77 (some true))))))) (.node 132 (.node 117 (.node 84 (.node 79 (.one 78 (some true)) (.node 83 (.one 79 (some true)) (.one 83 (some false)))) (.node 94 (.node 93 (.one 84 (some false)) (.one 93 (some false))) (.node 116 (.one 94 (some false)) (.one 116 (some true))))) (.node 128 (.node 126 (.node 118 (.one 117 (some true)) (.one 118 (some false))) (.node 127 (.one 126 (some false)) (.one 127 (some false)))) (.node 130 (.node 129 (.one 128 (some false)) (.one 129 (some true))) (.node 131 (.one 130 (some true)) (.one 131 (some true)))))) (.node 144 (.node 136 (.node 134 (.one 132 (some true)) (.node 135 (.one 134 (some false)) (.one 135 (some false)))) (.node 142 (.node 140 (.one 136 (some false)) (.one 140 (some false))) (.node 143 (.one 142 (some false)) (.one 143 (some false))))) (.node 172 (.node 150 (.node 147 (.one 144 (some false)) (.one 147 (some false))) (.node 153 (.one 150 (some false)) (.one 153 (some false)))) (.node 181 (.node 175 (.one 172 (some false)) (.one 175 (some false))) (.node 182 (.one 181 (some true)) (.one 182 (some true)))))))
noncomputable def tm_sized : BT (Bool) := .node 78 (.node 52 (.node 20 (.node 3 (.node 1 (.one 0 (false)) (.node 2 (.one 1 (false)) (.one 2 (false)))) (.node 5 (.node 4 (.one 3 (false)) (.one 4 (false))) (.node 9 (.one 5 (false)) (.one 9 (false))))) (.node 27 (.node 22 (.one 20 (false)) (.node 26 (.one 22 (false)) (.one 26 (false)))) (.node 50 (.node 32 (.one 27 (false)) (.one 32 (false))) (.node 51 (.one 50 (true)) (.one 51 (true)))))) (.node 59 (.node 55 (.node 53 (.one 52 (true)) (.node 54 (.one 53 (true)) (.one 54 (false)))) (.node 57 (.node 56 (.one 55 (false)) (.one 56 (true))) (.node 58 (.one 57 (true)) (.one 58 (true))))) (.node 73 (.node 62 (.node 60 (.one 59 (true)) (.one 60 (false))) (.node 72 (.one 62 (false)) (.one 72 (false)))) (.node 76 (.node 75 (.one 73 (false)) (.one 75 (false))) (.node 77 (.one 76 (true)) (.one 77 (true))))))) (.node 132 (.node 117 (.node 84 (.node 79 (.one 78 (true)) (.node 83 (.one 79 (true)) (.one 83 (false)))) (.node 94 (.node 93 (.one 84 (false)) (.one 93 (false))) (.node 116 (.one 94 (false)) (.one 116 (true))))) (.node 128 (.node 126 (.node 118 (.one 117 (true)) (.one 118 (false))) (.node 127 (.one 126 (false)) (.one 127 (false)))) (.node 130 (.node 129 (.one 128 (false)) (.one 129 (true))) (.node 131 (.one 130 (true)) (.one 131 (true)))))) (.node 144 (.node 136 (.node 134 (.one 132 (true)) (.node 135 (.one 134 (false)) (.one 135 (false)))) (.node 142 (.node 140 (.one 136 (false)) (.one 140 (false))) (.node 143 (.one 142 (false)) (.one 143 (false))))) (.node 172 (.node 150 (.node 147 (.one 144 (false)) (.one 147 (false))) (.node 153 (.one 150 (false)) (.one 153 (false)))) (.node 181 (.node 175 (.one 172 (false)) (.one 175 (false))) (.node 182 (.one 181 (true)) (.one 182 (true)))))))
noncomputable def tm_und : BT (Option TypeDesc) := .node 78 (.node 52 (.node 20 (.node 3 (.node 1 (.one 0 (some (TypeInfo.desc Tryz.t0))) (.node 2 (.one 1 (some (TypeInfo.desc Tryz.t1))) (.one 2 (some (TypeInfo.desc Tryz.t2))))) (.node 5 (.node 4 (.one 3 (some (TypeInfo.desc Tryz.t3))) (.one 4 (some (TypeInfo.desc Tryz.t4)))) (.node 9 (.one 5 (some (TypeInfo.desc Tryz.t5))) (.one 9 (some (TypeInfo.desc Tryz.t9)))))) (.node 27 (.node 22 (.one 20 (some (TypeInfo.desc Tryz.t20))) (.node 26 (.one 22 (some (TypeInfo.desc Tryz.t22))) (.one 26 (some (TypeInfo.desc Tryz.t3))))) (.node 50 (.node 32 (.one 27 (some (TypeInfo.desc Tryz.t27))) (.one 32 (some (TypeInfo.desc Tryz.t32)))) (.node 51 (.one 50 (some (TypeInfo.desc Tryz.t50))) (.one 51 (some (TypeInfo.desc Tryz.t50))))))) (.node 59 (.node 55 (.node 53 (.one 52 (some (TypeInfo.desc Tryz.t52))) (.node 54 (.one 53 (some (TypeInfo.desc Tryz.t52))) (.one 54 (some (TypeInfo.desc Tryz.t54))))) (.node 57 (.node 56 (.one 55 (some (TypeInfo.desc Tryz.t55))) (.one 56 (some (TypeInfo.desc Tryz.t56)))) (.node 58 (.one 57 (some (TypeInfo.desc Tryz.t56))) (.one 58 (some (TypeInfo.desc Tryz.t58)))))) (.node 73 (.node 62 (.node 60 (.one 59 (some (TypeInfo.desc Tryz.t58))) (.one 60 (some (TypeInfo.desc Tryz.t60)))) (.node 72 (.one 62 (some (TypeInfo.desc Tryz.t62))) (.one 72 (some (TypeInfo.desc Tryz.t72))))) (.node 76 (.node 75 (.one 73 (some (TypeInfo.desc Tryz.t73))) (.one 75 (some (TypeInfo.desc Tryz.t75)))) (.node 77 (.one 76 (some (TypeInfo.desc Tryz.t76))) (.one 77 (some (TypeInfo.desc Tryz.t76)))))))) (.node 132 (.node 117 (.node 84 (.node 79 (.one 78 (some (TypeInfo.desc Tryz.t78))) (.node 83 (.one 79 (some (TypeInfo.desc Tryz.t78))) (.one 83 (some (TypeInfo.desc Tryz.t83))))) (.node 94 (.node 93 (.one 84 (some (TypeInfo.desc Tryz.t84))) (.one 93 (some (TypeInfo.desc Tryz.t93)))) (.node 116 (.one 94 (some (TypeInfo.desc Tryz.t94))) (.one 116 (some (TypeInfo.desc Tryz.t116)))))) (.node 128 (.node 126 (.node 118 (.one 117 (some (TypeInfo.desc Tryz.t116))) (.one 118 (some (TypeInfo.desc Tryz.t118)))) (.node 127 (.one 126 (some (TypeInfo.desc Tryz.t126))) (.one 127 (some (TypeInfo.desc Tryz.t127))))) (.node 130 (.node 129 (.one 128 (some (TypeInfo.desc Tryz.t128))) (.one 129 (some (TypeInfo.desc Tryz.t129)))) (.node 131 (.one 130 (some (TypeInfo.desc Tryz.t129))) (.one 131 (some (TypeInfo.desc Tryz.t131))))))) (.node 144 (.node 136 (.node 134 (.one 132 (some (TypeInfo.desc Tryz.t131))) (.node 135 (.one 134 (some (TypeInfo.desc Tryz.t134))) (.one 135 (some (TypeInfo.desc Tryz.t134))))) (.node 142 (.node 140 (.one 136 (some (TypeInfo.desc Tryz.t136))) (.one 140 (some (TypeInfo.desc Tryz.t140)))) (.node 143 (.one 142 (some (TypeInfo.desc Tryz.t142))) (.one 143 (some (TypeInfo.desc Tryz.t143)))))) (.node 172 (.node 150 (.node 147 (.one 144 (some (TypeInfo.desc Tryz.t144))) (.one 147 (some (TypeInfo.desc Tryz.t147)))) (.node 153 (.one 150 (some (TypeInfo.desc Tryz.t150))) (.one 153 (some (TypeInfo.desc Tryz.t153))))) (.node 181 (.node 175 (.one 172 (some (TypeInfo.desc Tryz.t172))) (.one 175 (some (TypeInfo.desc Tryz.t175)))) (.node 182 (.one 181 (some (TypeInfo.desc Tryz.t181))) (.one 182 (some (TypeInfo.desc Tryz.t181))))))))
noncomputable def tm_info : BT (Option TypeInfo) := .node 78 (.node 52 (.node 20 (.node 3 (.node 1 (.one 0 (some Tryz.t0)) (.node 2 (.one 1 (some Tryz.t1)) (.one 2 (some Tryz.t2)))) (.node 5 (.node 4 (.one 3 (some Tryz.t3)) (.one 4 (some Tryz.t4))) (.node 9 (.one 5 (some Tryz.t5)) (.one 9 (some Tryz.t9))))) (.node 27 (.node 22 (.one 20 (some Tryz.t20)) (.node 26 (.one 22 (some Tryz.t22)) (.one 26 (some Tryz.t26)))) (.node 50 (.node 32 (.one 27 (some Tryz.t27)) (.one 32 (some Tryz.t32))) (.node 51 (.one 50 (some Tryz.t50)) (.one 51 (some Tryz.t51)))))) (.node 59 (.node 55 (.node 53 (.one 52 (some Tryz.t52)) (.node 54 (.one 53 (some Tryz.t53)) (.one 54 (some Tryz.t54)))) (.node 57 (.node 56 (.one 55 (some Tryz.t55)) (.one 56 (some Tryz.t56))) (.node 58 (.one 57 (some Tryz.t57)) (.one 58 (some Tryz.t58))))) (.node 73 (.node 62 (.node 60 (.one 59 (some Tryz.t59)) (.one 60 (some Tryz.t60))) (.node 72 (.one 62 (some Tryz.t62)) (.one 72 (some Tryz.t72)))) (.node 76 (.node 75 (.one 73 (some Tryz.t73)) (.one 75 (some Tryz.t75))) (.node 77 (.one 76 (some Tryz.t76)) (.one 77 (some Tryz.t77))))))) (.node 132 (.node 117 (.node 84 (.node 79 (.one 78 (some Tryz.t78)) (.node 83 (.one 79 (some Tryz.t79)) (.one 83 (some Tryz.t83)))) (.node 94 (.node 93 (.one 84 (some Tryz.t84)) (.one 93 (some Tryz.t93))) (.node 116 (.one 94 (some Tryz.t94)) (.one 116 (some Tryz.t116))))) (.node 128 (.node 126 (.node 118 (.one 117 (some Tryz.t117)) (.one 118 (some Tryz.t118))) (.node 127 (.one 126 (some Tryz.t126)) (.one 127 (some Tryz.t127)))) (.node 130 (.node 129 (.one 128 (some Tryz.t128)) (.one 129 (some Tryz.t129))) (.node 131 (.one 130 (some Tryz.t130)) (.one 131 (some Tryz.t131)))))) (.node 144 (.node 136 (.node 134 (.one 132 (some Tryz.t132)) (.node 135 (.one 134 (some Tryz.t134)) (.one 135 (some Tryz.t135)))) (.node 142 (.node 140 (.one 136 (some Tryz.t136)) (.one 140 (some Tryz.t140))) (.node 143 (.one 142 (some Tryz.t142)) (.one 143 (some Tryz.t143))))) (.node 172 (.node 150 (.node 147 (.one 144 (some Tryz.t144)) (.one 147 (some Tryz.t147))) (.node 153 (.one 150 (some Tryz.t150)) (.one 153 (some Tryz.t153)))) (.node 181 (.node 175 (.one 172 (some Tryz.t172)) (.one 175 (some Tryz.t175))) (.node 182 (.one 181 (some Tryz.t181)) (.one 182 (some Tryz.t182)))))))
noncomputable def tm : Memo := ⟨memo tm_und Tryz.prog.underlying, memo tm_kds (kdsOf Tryz.prog 9), memo tm_zero (zeroOf Tryz.prog), memo tm_plain (plainKds Tryz.prog 9), memo tm_guard (Tryz.prog.eqGuardType Tryz.prog.depth), memo tm_size (size? Tryz.prog), memo tm_agg (agg? Tryz.prog), memo tm_sized (Go.Den.sized Tryz.prog), memo tm_info Tryz.prog.info?⟩
theorem tm_und_ok : memo tm_und (Tryz.prog.underlying) = Tryz.prog.underlying := memo_eq (by kernel_rfl)
theorem tm_kds_ok : memo tm_kds (kdsOf Tryz.prog 9) = kdsOf Tryz.prog 9 := memo_eq (by kernel_rfl)
theorem tm_zero_ok : memo tm_zero (zeroOf Tryz.prog) = zeroOf Tryz.prog := memo_eq (by kernel_rfl)
theorem tm_plain_ok : memo tm_plain (plainKds Tryz.prog 9) = plainKds Tryz.prog 9 := memo_eq (by kernel_rfl)
theorem tm_guard_ok : memo tm_guard (Tryz.prog.eqGuardType Tryz.prog.depth) = Tryz.prog.eqGuardType Tryz.prog.depth := memo_eq (by kernel_rfl)
theorem tm_size_ok : memo tm_size (size? Tryz.prog) = size? Tryz.prog := memo_eq (by kernel_rfl)
theorem tm_agg_ok : memo tm_agg (agg? Tryz.prog) = agg? Tryz.prog := memo_eq (by kernel_rfl)
theorem tm_sized_ok : memo tm_sized (Go.Den.sized Tryz.prog) = Go.Den.sized Tryz.prog := memo_eq (by kernel_rfl)
theorem tm_info_ok : memo tm_info (Tryz.prog.info?) = Tryz.prog.info? := memo_eq (by kernel_rfl)
theorem tm_std : tm = Memo.std Tryz.prog := by
 unfold tm Memo.std
 rw [tm_und_ok, tm_kds_ok, tm_zero_ok, tm_plain_ok, tm_guard_ok, tm_size_ok, tm_agg_ok, tm_sized_ok, tm_info_ok]
theorem ac {σ : Spec} {n : Nat} {hs : List Nat} {f : FuncId} {fn : Func} {lv : Live} {keep : Bool} {args : List AV} {ext : List (List AV)} (o : OSh) {y : o.ty} (h1 : SpecOk Tryz.prog σ) (h2 : Tryz.prog.funcs[f]? = some fn) (h3 : fn.name ≠ "runtime.NumGoroutine")
  (h : DM.denFn tm (with_ Tryz.prog σ [] n 0 hs) lv n fn keep args ext o.chk = some y) : Contract Tryz.prog f args ext (o.enc y) :=
 auto_okM tm_std (with_ok mixed (by kernel_rfl) h1 n 0 hs) (with_pick mixed (by kernel_rfl) h1 n 0 hs) mixed h2 h3 h
end Go.Den
namespace Go.Den
noncomputable section
open Go.Proofs
set_option maxRecDepth 100000
def z27_lv : Live := [(3, [0, 1, 5, 6], [1000, 1001, 1002, 1003]), (7, [0, 1, 5, 6, 7], [1000, 1001, 1002, 1003])]
def z27_σ (n : Nat) : Spec := Spec.none
theorem z27_σok (n : Nat) : SpecOk Tryz.prog (z27_σ n) := (SpecOk.none _)
def z27_Φ (n : Nat) : Orc := with_ Tryz.prog (z27_σ n) [] n 0 hsL
def z27_v (n : Nat) (b0 : Bool) (r1 : Rows) (j2 : Int) : Option (Int × Unit) :=
 DM.denFn tm (z27_Φ n) z27_lv n Tryz.f5 false [AV.sl b0 kdR r1 Right.no, aI j2] [] (OSh.chk (OSh.plain (.i .i64) []))
def z27_l3 (n : Nat) (b0 : Bool) (r1 : Rows) (j2 : Int) (i0 : Nat) (j5 : Int) (j6 : Int) : Option (Int × Unit) :=
 DM.loopFn tm (z27_Φ n) z27_lv n Tryz.f5 false [] (OSh.chk (OSh.plain (.i .i64) [])) 3 [] i0 (St.mk ([AV.sl b0 kdR r1 Right.no, aI j2, Jk, Jk, Jk, aI j5, aI j6] ++ jk 70) [])
def z27_l7 (n : Nat) (b0 : Bool) (r1 : Rows) (j2 : Int) (i0 i1 : Nat) (j3 : Int) (j4 : Int) (j7 : Int) : Option (Int × Unit) :=
 DM.loopFn tm (z27_Φ n) z27_lv n Tryz.f5 false [] (OSh.chk (OSh.plain (.i .i64) [])) 7 [i0] i1 (St.mk ([AV.sl b0 kdR r1 Right.no, aI j2, Jk, Jk, Jk, aI j3, aI j7, aI j4] ++ jk 69) [])
theorem z27_s3 (n : Nat) (b0 : Bool) (r1 : Rows) (j2 : Int) (i0 : Nat) (j5 : Int) (j6 : Int) : z27_l3 n b0 r1 j2 (i0 + 1) j5 j6 =
 bif decide (j6 < (↑(List.length r1) : Int)) then
 bif decide (j5 ≤ j2) then
 if 0 ≤ j6 then
 if j6 < (↑(List.length r1) : Int) then
 if 0 ≤ j6 then
 if j6 < (↑(List.length r1) : Int) then
 z27_l7 n b0 r1 j2 i0 n (IntKind.wrap IntKind.i64 (j5 + IntKind.wrap IntKind.i64 (IntKind.wrap IntKind.i64 (1 + (↑(List.length (Row.R (List.getD r1 (Int.toNat j6) []) 5)) : Int)) + IntKind.wrap IntKind.i64 (Int.tdiv (↑(ByteArray.size (Row.S (List.getD r1 (Int.toNat j6) []) 4)) : Int) 16)))) 0 j6
 else none
 else none
 else none
 else none
 else some (j5, ())
 else some (j5, ()) := by kernel_rfl
theorem z27_s7 (n : Nat) (b0 : Bool) (r1 : Rows) (j2 : Int) (i0 i1 : Nat) (j3 : Int) (j4 : Int) (j7 : Int) : z27_l7 n b0 r1 j2 i0 (i1 + 1) j3 j4 j7 =
 if 0 ≤ j7 then
 if j7 < (↑(List.length r1) : Int) then
 bif decide (j4 < (↑(List.length (Row.R (List.getD r1 (Int.toNat j7) []) 10)) : Int)) then
 bif decide (j3 ≤ j2) then
 if 0 ≤ j7 then
 if j7 < (↑(List.length r1) : Int) then
 if 0 ≤ j4 then
 if j4 < (↑(List.length (Row.R (List.getD r1 (Int.toNat j7) []) 10)) : Int) then
 if 0 ≤ j7 then
 if j7 < (↑(List.length r1) : Int) then
 if 0 ≤ j4 then
 if j4 < (↑(List.length (Row.R (List.getD r1 (Int.toNat j7) []) 10)) : Int) then
 z27_l7 n b0 r1 j2 i0 i1 (IntKind.wrap IntKind.i64 (j3 + IntKind.wrap IntKind.i64 (IntKind.wrap IntKind.i64 (1 + (↑(List.length (Row.R (List.getD (Row.R (List.getD r1 (Int.toNat j7) []) 10) (Int.toNat j4) []) 5)) : Int)) + IntKind.wrap IntKind.i64 (Int.tdiv (↑(ByteArray.size (Row.S (List.getD (Row.R (List.getD r1 (Int.toNat j7) []) 10) (Int.toNat j4) []) 4)) : Int) 16)))) (IntKind.wrap IntKind.i64 (j4 + 1)) j7
 else none
 else none
 else none
 else none
 else none
 else none
 else none
 else none
 else z27_l3 n b0 r1 j2 i0 j3 (IntKind.wrap IntKind.i64 (j7 + 1))
 else z27_l3 n b0 r1 j2 i0 j3 (IntKind.wrap IntKind.i64 (j7 + 1))
 else none
 else none := by kernel_rfl
theorem z27_e (n : Nat) (b0 : Bool) (r1 : Rows) (j2 : Int) : z27_v n b0 r1 j2 =
 z27_l3 n b0 r1 j2 n 0 0 := by kernel_rfl
theorem z27_c (n : Nat) (b0 : Bool) (r1 : Rows) (j2 : Int) (y : Int × Unit) (h : z27_v n b0 r1 j2 = some y) : Contract Tryz.prog 5 [AV.sl b0 kdR r1 Right.no, aI j2] [] (OSh.enc (OSh.plain (.i .i64) []) y) :=
 ac (OSh.plain (.i .i64) []) (z27_σok n) Tryz.func5 (by decide) h
def z72_lv : Live := []
def z72_σ (n : Nat) : Spec := Spec.none
theorem z72_σok (n : Nat) : SpecOk Tryz.prog (z72_σ n) := (SpecOk.none _)
def z72_Φ (n : Nat) : Orc := with_ Tryz.prog (z72_σ n) [] n 0 hsL
def z72_v (n : Nat) (j0 : Int) : Option (Bool × Unit) :=
 DM.denFn tm (z72_Φ n) z72_lv n Tryz.f121 false [AV.dv (DV.val (Value.int IntKind.u8 j0))] [] (OSh.chk (OSh.plain (.b) []))
theorem z72_e (n : Nat) (j0 : Int) : z72_v n j0 =
 bif j0 == 32 then
 some (true, ())
 else bif j0 == 9 then
 some (true, ())
 else bif j0 == 10 then
 some (true, ())
 else some (j0 == 13, ()) := by kernel_rfl
theorem z72_c (n : Nat) (j0 : Int) (y : Bool × Unit) (h : z72_v n j0 = some y) : Contract Tryz.prog 121 [AV.dv (DV.val (Value.int IntKind.u8 j0))] [] (OSh.enc (OSh.plain (.b) []) y) :=
 ac (OSh.plain (.b) []) (z72_σok n) Tryz.func121 (by decide) h
def z90_lv : Live := [(1, [0, 1, 2], [1000, 1001, 1002, 1003])]
def z90_σ (n : Nat) : Spec := (inst 121 [.i IntKind.u8] [] (OSh.plain (.b) []) (fun x e => z72_v n x.1) Spec.none)
theorem z90_σok (n : Nat) : SpecOk Tryz.prog (z90_σ n) := (inst_ok (fun x e y h => z72_c n x.1 y h) (SpecOk.none _))
def z90_Φ (n : Nat) : Orc := with_ Tryz.prog (z90_σ n) [] n 0 hsL
def z90_v (n : Nat) (s0 : ByteArray) (j1 : Int) : Option (Int × Unit) :=
 DM.denFn tm (z90_Φ n) z90_lv n Tryz.f122 false [aS s0, aI j1, AV.fn 121 []] [] (OSh.chk (OSh.plain (.i .i64) []))
def z90_l1 (n : Nat) (s0 : ByteArray) (j1 : Int) (i0 : Nat) (j3 : Int) : Option (Int × Unit) :=
 DM.loopFn tm (z90_Φ n) z90_lv n Tryz.f122 false [] (OSh.chk (OSh.plain (.i .i64) [])) 1 [] i0 (St.mk ([aS s0, aI j3, AV.fn 121 []] ++ jk 18) [])
theorem z90_s1 (n : Nat) (s0 : ByteArray) (j1 : Int) (i0 : Nat) (j3 : Int) : z90_l1 n s0 j1 (i0 + 1) j3 =
 bif decide (j3 < (↑(ByteArray.size s0) : Int)) then
 if 0 ≤ j3 then
 if j3 < (↑(ByteArray.size s0) : Int) then
 obind (z72_v n (bt s0 j3)) fun y4 =>
 bif y4.fst then
 z90_l1 n s0 j1 i0 (IntKind.wrap IntKind.i64 (j3 + 1))
 else some (j3, ())
 else none
 else none
 else some (j3, ()) := by kernel_rfl
theorem z90_e (n : Nat) (s0 : ByteArray) (j1 : Int) : z90_v n s0 j1 =
 z90_l1 n s0 j1 n j1 := by kernel_rfl
theorem z90_c (n : Nat) (s0 : ByteArray) (j1 : Int) (y : Int × Unit) (h : z90_v n s0 j1 = some y) : Contract Tryz.prog 122 [aS s0, aI j1, AV.fn 121 []] [] (OSh.enc (OSh.plain (.i .i64) []) y) :=
 ac (OSh.plain (.i .i64) []) (z90_σok n) Tryz.func122 (by decide) h
def z61_lv : Live := []
def z61_σ (n : Nat) : Spec := Spec.none
theorem z61_σok (n : Nat) : SpecOk Tryz.prog (z61_σ n) := (SpecOk.none _)
def z61_Φ (n : Nat) : Orc := with_ Tryz.prog (z61_σ n) [] n 0 hsL
def z61_v (n : Nat) (j0 : Int) : Option (Bool × Unit) :=
 DM.denFn tm (z61_Φ n) z61_lv n Tryz.f123 false [AV.dv (DV.val (Value.int IntKind.u8 j0))] [] (OSh.chk (OSh.plain (.b) []))
theorem z61_e (n : Nat) (j0 : Int) : z61_v n j0 =
 some (j0 != 10, ()) := by kernel_rfl
theorem z61_c (n : Nat) (j0 : Int) (y : Bool × Unit) (h : z61_v n j0 = some y) : Contract Tryz.prog 123 [AV.dv (DV.val (Value.int IntKind.u8 j0))] [] (OSh.enc (OSh.plain (.b) []) y) :=
 ac (OSh.plain (.b) []) (z61_σok n) Tryz.func123 (by decide) h
def z83_lv : Live := [(1, [0, 1, 2], [1000, 1001, 1002, 1003])]
def z83_σ (n : Nat) : Spec := (inst 123 [.i IntKind.u8] [] (OSh.plain (.b) []) (fun x e => z61_v n x.1) Spec.none)
theorem z83_σok (n : Nat) : SpecOk Tryz.prog (z83_σ n) := (inst_ok (fun x e y h => z61_c n x.1 y h) (SpecOk.none _))
def z83_Φ (n : Nat) : Orc := with_ Tryz.prog (z83_σ n) [] n 0 hsL
def z83_v (n : Nat) (s0 : ByteArray) (j1 : Int) : Option (Int × Unit) :=
 DM.denFn tm (z83_Φ n) z83_lv n Tryz.f122 false [aS s0, aI j1, AV.fn 123 []] [] (OSh.chk (OSh.plain (.i .i64) []))
def z83_l1 (n : Nat) (s0 : ByteArray) (j1 : Int) (i0 : Nat) (j3 : Int) : Option (Int × Unit) :=
 DM.loopFn tm (z83_Φ n) z83_lv n Tryz.f122 false [] (OSh.chk (OSh.plain (.i .i64) [])) 1 [] i0 (St.mk ([aS s0, aI j3, AV.fn 123 []] ++ jk 18) [])
theorem z83_s1 (n : Nat) (s0 : ByteArray) (j1 : Int) (i0 : Nat) (j3 : Int) : z83_l1 n s0 j1 (i0 + 1) j3 =
 bif decide (j3 < (↑(ByteArray.size s0) : Int)) then
 if 0 ≤ j3 then
 if j3 < (↑(ByteArray.size s0) : Int) then
 obind (z61_v n (bt s0 j3)) fun y4 =>
 bif y4.fst then
 z83_l1 n s0 j1 i0 (IntKind.wrap IntKind.i64 (j3 + 1))
 else some (j3, ())
 else none
 else none
 else some (j3, ()) := by kernel_rfl
theorem z83_e (n : Nat) (s0 : ByteArray) (j1 : Int) : z83_v n s0 j1 =
 z83_l1 n s0 j1 n j1 := by kernel_rfl
theorem z83_c (n : Nat) (s0 : ByteArray) (j1 : Int) (y : Int × Unit) (h : z83_v n s0 j1 = some y) : Contract Tryz.prog 122 [aS s0, aI j1, AV.fn 123 []] [] (OSh.enc (OSh.plain (.i .i64) []) y) :=
 ac (OSh.plain (.i .i64) []) (z83_σok n) Tryz.func122 (by decide) h
def z89_lv : Live := [(1, [0, 1], [1000, 1001, 1002, 1003])]
def z89_σ (n : Nat) : Spec := (inst 121 [.i IntKind.u8] [] (OSh.plain (.b) []) (fun x e => z72_v n x.1) (inst 122 [.s, .i .i64, .fn 121 []] [] (OSh.plain (.i .i64) []) (fun x e => z90_v n x.1 x.2.1) (inst 122 [.s, .i .i64, .fn 123 []] [] (OSh.plain (.i .i64) []) (fun x e => z83_v n x.1 x.2.1) Spec.none)))
theorem z89_σok (n : Nat) : SpecOk Tryz.prog (z89_σ n) := (inst_ok (fun x e y h => z72_c n x.1 y h) (inst_ok (fun x e y h => z90_c n x.1 x.2.1 y h) (inst_ok (fun x e y h => z83_c n x.1 x.2.1 y h) (SpecOk.none _))))
def z89_Φ (n : Nat) : Orc := with_ Tryz.prog (z89_σ n) [] n 0 hsL
def z89_v (n : Nat) (s0 : ByteArray) (j1 : Int) : Option (Int × Unit) :=
 DM.denFn tm (z89_Φ n) z89_lv n Tryz.f69 false [aS s0, aI j1] [] (OSh.chk (OSh.plain (.i .i64) []))
def z89_l1 (n : Nat) (s0 : ByteArray) (j1 : Int) (i0 : Nat) (j5 : Int) : Option (Int × Unit) :=
 DM.loopFn tm (z89_Φ n) z89_lv n Tryz.f69 false [] (OSh.chk (OSh.plain (.i .i64) [])) 1 [] i0 (St.mk ([aS s0, aI j5] ++ jk 24) [])
theorem z89_s1 (n : Nat) (s0 : ByteArray) (j1 : Int) (i0 : Nat) (j5 : Int) : z89_l1 n s0 j1 (i0 + 1) j5 =
 bif decide (j5 < (↑(ByteArray.size s0) : Int)) then
 if 0 ≤ j5 then
 if j5 < (↑(ByteArray.size s0) : Int) then
 obind (z72_v n (bt s0 j5)) fun y6 =>
 bif y6.fst then
 obind (z90_v n s0 j5) fun y7 =>
 z89_l1 n s0 j1 i0 y7.fst
 else if 0 ≤ j5 then
 if j5 < (↑(ByteArray.size s0) : Int) then
 bif bt s0 j5 == 37 then
 obind (z83_v n s0 j5) fun y8 =>
 z89_l1 n s0 j1 i0 y8.fst
 else some (j5, ())
 else none
 else none
 else none
 else none
 else some (j5, ()) := by kernel_rfl
theorem z89_e (n : Nat) (s0 : ByteArray) (j1 : Int) : z89_v n s0 j1 =
 z89_l1 n s0 j1 n j1 := by kernel_rfl
theorem z89_c (n : Nat) (s0 : ByteArray) (j1 : Int) (y : Int × Unit) (h : z89_v n s0 j1 = some y) : Contract Tryz.prog 69 [aS s0, aI j1] [] (OSh.enc (OSh.plain (.i .i64) []) y) :=
 ac (OSh.plain (.i .i64) []) (z89_σok n) Tryz.func69 (by decide) h
def z73_lv : Live := []
def z73_σ (n : Nat) : Spec := Spec.none
theorem z73_σok (n : Nat) : SpecOk Tryz.prog (z73_σ n) := (SpecOk.none _)
def z73_Φ (n : Nat) : Orc := with_ Tryz.prog (z73_σ n) [] n 0 hsL
def z73_v (n : Nat) (j0 : Int) : Option (Bool × Unit) :=
 DM.denFn tm (z73_Φ n) z73_lv n Tryz.f125 false [AV.dv (DV.val (Value.int IntKind.u8 j0))] [] (OSh.chk (OSh.plain (.b) []))
theorem z73_e (n : Nat) (j0 : Int) : z73_v n j0 =
 bif decide (j0 ≥ 97) then
 some (decide (j0 ≤ 122), ())
 else some (false, ()) := by kernel_rfl
theorem z73_c (n : Nat) (j0 : Int) (y : Bool × Unit) (h : z73_v n j0 = some y) : Contract Tryz.prog 125 [AV.dv (DV.val (Value.int IntKind.u8 j0))] [] (OSh.enc (OSh.plain (.b) []) y) :=
 ac (OSh.plain (.b) []) (z73_σok n) Tryz.func125 (by decide) h
def z81_lv : Live := []
def z81_σ (n : Nat) : Spec := Spec.none
theorem z81_σok (n : Nat) : SpecOk Tryz.prog (z81_σ n) := (SpecOk.none _)
def z81_Φ (n : Nat) : Orc := with_ Tryz.prog (z81_σ n) [] n 0 hsL
def z81_v (n : Nat) (j0 : Int) : Option (Bool × Unit) :=
 DM.denFn tm (z81_Φ n) z81_lv n Tryz.f126 false [AV.dv (DV.val (Value.int IntKind.u8 j0))] [] (OSh.chk (OSh.plain (.b) []))
theorem z81_e (n : Nat) (j0 : Int) : z81_v n j0 =
 bif decide (j0 ≥ 65) then
 some (decide (j0 ≤ 90), ())
 else some (false, ()) := by kernel_rfl
theorem z81_c (n : Nat) (j0 : Int) (y : Bool × Unit) (h : z81_v n j0 = some y) : Contract Tryz.prog 126 [AV.dv (DV.val (Value.int IntKind.u8 j0))] [] (OSh.enc (OSh.plain (.b) []) y) :=
 ac (OSh.plain (.b) []) (z81_σok n) Tryz.func126 (by decide) h
def z84_lv : Live := []
def z84_σ (n : Nat) : Spec := Spec.none
theorem z84_σok (n : Nat) : SpecOk Tryz.prog (z84_σ n) := (SpecOk.none _)
def z84_Φ (n : Nat) : Orc := with_ Tryz.prog (z84_σ n) [] n 0 hsL
def z84_v (n : Nat) (j0 : Int) : Option (Bool × Unit) :=
 DM.denFn tm (z84_Φ n) z84_lv n Tryz.f127 false [AV.dv (DV.val (Value.int IntKind.u8 j0))] [] (OSh.chk (OSh.plain (.b) []))
theorem z84_e (n : Nat) (j0 : Int) : z84_v n j0 =
 bif decide (j0 ≥ 48) then
 some (decide (j0 ≤ 57), ())
 else some (false, ()) := by kernel_rfl
theorem z84_c (n : Nat) (j0 : Int) (y : Bool × Unit) (h : z84_v n j0 = some y) : Contract Tryz.prog 127 [AV.dv (DV.val (Value.int IntKind.u8 j0))] [] (OSh.enc (OSh.plain (.b) []) y) :=
 ac (OSh.plain (.b) []) (z84_σok n) Tryz.func127 (by decide) h
def z78_lv : Live := []
def z78_σ (n : Nat) : Spec := (inst 125 [.i IntKind.u8] [] (OSh.plain (.b) []) (fun x e => z73_v n x.1) (inst 126 [.i IntKind.u8] [] (OSh.plain (.b) []) (fun x e => z81_v n x.1) (inst 127 [.i IntKind.u8] [] (OSh.plain (.b) []) (fun x e => z84_v n x.1) Spec.none)))
theorem z78_σok (n : Nat) : SpecOk Tryz.prog (z78_σ n) := (inst_ok (fun x e y h => z73_c n x.1 y h) (inst_ok (fun x e y h => z81_c n x.1 y h) (inst_ok (fun x e y h => z84_c n x.1 y h) (SpecOk.none _))))
def z78_Φ (n : Nat) : Orc := with_ Tryz.prog (z78_σ n) [] n 0 hsL
def z78_v (n : Nat) (j0 : Int) : Option (Bool × Unit) :=
 DM.denFn tm (z78_Φ n) z78_lv n Tryz.f124 false [AV.dv (DV.val (Value.int IntKind.u8 j0))] [] (OSh.chk (OSh.plain (.b) []))
theorem z78_e (n : Nat) (j0 : Int) : z78_v n j0 =
 obind (z73_v n j0) fun y1 =>
 bif y1.fst then
 some (true, ())
 else obind (z81_v n j0) fun y2 =>
 bif y2.fst then
 some (true, ())
 else obind (z84_v n j0) fun y3 =>
 bif y3.fst then
 some (true, ())
 else some (j0 == 95, ()) := by kernel_rfl
theorem z78_c (n : Nat) (j0 : Int) (y : Bool × Unit) (h : z78_v n j0 = some y) : Contract Tryz.prog 124 [AV.dv (DV.val (Value.int IntKind.u8 j0))] [] (OSh.enc (OSh.plain (.b) []) y) :=
 ac (OSh.plain (.b) []) (z78_σok n) Tryz.func124 (by decide) h
def z86_lv : Live := [(1, [0, 1, 2], [1000, 1001, 1002, 1003])]
def z86_σ (n : Nat) : Spec := (inst 124 [.i IntKind.u8] [] (OSh.plain (.b) []) (fun x e => z78_v n x.1) Spec.none)
theorem z86_σok (n : Nat) : SpecOk Tryz.prog (z86_σ n) := (inst_ok (fun x e y h => z78_c n x.1 y h) (SpecOk.none _))
def z86_Φ (n : Nat) : Orc := with_ Tryz.prog (z86_σ n) [] n 0 hsL
def z86_v (n : Nat) (s0 : ByteArray) (j1 : Int) : Option (Int × Unit) :=
 DM.denFn tm (z86_Φ n) z86_lv n Tryz.f122 false [aS s0, aI j1, AV.fn 124 []] [] (OSh.chk (OSh.plain (.i .i64) []))
def z86_l1 (n : Nat) (s0 : ByteArray) (j1 : Int) (i0 : Nat) (j3 : Int) : Option (Int × Unit) :=
 DM.loopFn tm (z86_Φ n) z86_lv n Tryz.f122 false [] (OSh.chk (OSh.plain (.i .i64) [])) 1 [] i0 (St.mk ([aS s0, aI j3, AV.fn 124 []] ++ jk 18) [])
theorem z86_s1 (n : Nat) (s0 : ByteArray) (j1 : Int) (i0 : Nat) (j3 : Int) : z86_l1 n s0 j1 (i0 + 1) j3 =
 bif decide (j3 < (↑(ByteArray.size s0) : Int)) then
 if 0 ≤ j3 then
 if j3 < (↑(ByteArray.size s0) : Int) then
 obind (z78_v n (bt s0 j3)) fun y4 =>
 bif y4.fst then
 z86_l1 n s0 j1 i0 (IntKind.wrap IntKind.i64 (j3 + 1))
 else some (j3, ())
 else none
 else none
 else some (j3, ()) := by kernel_rfl
theorem z86_e (n : Nat) (s0 : ByteArray) (j1 : Int) : z86_v n s0 j1 =
 z86_l1 n s0 j1 n j1 := by kernel_rfl
theorem z86_c (n : Nat) (s0 : ByteArray) (j1 : Int) (y : Int × Unit) (h : z86_v n s0 j1 = some y) : Contract Tryz.prog 122 [aS s0, aI j1, AV.fn 124 []] [] (OSh.enc (OSh.plain (.i .i64) []) y) :=
 ac (OSh.plain (.i .i64) []) (z86_σok n) Tryz.func122 (by decide) h
def z88_lv : Live := [(1, [0, 1, 2], [1000, 1001, 1002, 1003])]
def z88_σ (n : Nat) : Spec := (inst 127 [.i IntKind.u8] [] (OSh.plain (.b) []) (fun x e => z84_v n x.1) Spec.none)
theorem z88_σok (n : Nat) : SpecOk Tryz.prog (z88_σ n) := (inst_ok (fun x e y h => z84_c n x.1 y h) (SpecOk.none _))
def z88_Φ (n : Nat) : Orc := with_ Tryz.prog (z88_σ n) [] n 0 hsL
def z88_v (n : Nat) (s0 : ByteArray) (j1 : Int) : Option (Int × Unit) :=
 DM.denFn tm (z88_Φ n) z88_lv n Tryz.f122 false [aS s0, aI j1, AV.fn 127 []] [] (OSh.chk (OSh.plain (.i .i64) []))
def z88_l1 (n : Nat) (s0 : ByteArray) (j1 : Int) (i0 : Nat) (j3 : Int) : Option (Int × Unit) :=
 DM.loopFn tm (z88_Φ n) z88_lv n Tryz.f122 false [] (OSh.chk (OSh.plain (.i .i64) [])) 1 [] i0 (St.mk ([aS s0, aI j3, AV.fn 127 []] ++ jk 18) [])
theorem z88_s1 (n : Nat) (s0 : ByteArray) (j1 : Int) (i0 : Nat) (j3 : Int) : z88_l1 n s0 j1 (i0 + 1) j3 =
 bif decide (j3 < (↑(ByteArray.size s0) : Int)) then
 if 0 ≤ j3 then
 if j3 < (↑(ByteArray.size s0) : Int) then
 obind (z84_v n (bt s0 j3)) fun y4 =>
 bif y4.fst then
 z88_l1 n s0 j1 i0 (IntKind.wrap IntKind.i64 (j3 + 1))
 else some (j3, ())
 else none
 else none
 else some (j3, ()) := by kernel_rfl
theorem z88_e (n : Nat) (s0 : ByteArray) (j1 : Int) : z88_v n s0 j1 =
 z88_l1 n s0 j1 n j1 := by kernel_rfl
theorem z88_c (n : Nat) (s0 : ByteArray) (j1 : Int) (y : Int × Unit) (h : z88_v n s0 j1 = some y) : Contract Tryz.prog 122 [aS s0, aI j1, AV.fn 127 []] [] (OSh.enc (OSh.plain (.i .i64) []) y) :=
 ac (OSh.plain (.i .i64) []) (z88_σok n) Tryz.func122 (by decide) h
def z67_lv : Live := [(8, [0, 4, 5, 30, 31], [1000, 1001, 1002, 1003])]
def z67_σ (n : Nat) : Spec := Spec.none
theorem z67_σok (n : Nat) : SpecOk Tryz.prog (z67_σ n) := (SpecOk.none _)
def z67_Φ (n : Nat) : Orc := with_ Tryz.prog (z67_σ n) [] n 0 hsL
def z67_v (n : Nat) (s0 : ByteArray) : Option ((Int × Bool × Unit) × Unit) :=
 DM.denFn tm (z67_Φ n) z67_lv n Tryz.f128 false [aS s0] [] (OSh.chk (OSh.plain (.tup [.i .i64, .b]) []))
def z67_l8 (n : Nat) (s0 : ByteArray) (i0 : Nat) (s1 : ByteArray) (j2 : Int) (j3 : Int) (j4 : Int) : Option ((Int × Bool × Unit) × Unit) :=
 DM.loopFn tm (z67_Φ n) z67_lv n Tryz.f128 false [] (OSh.chk (OSh.plain (.tup [.i .i64, .b]) [])) 8 [] i0 (St.mk ([aS s1, Jk, Jk, Jk, AV.dv (DV.val (Value.bool (bt s0 0 == 45))), aI j3, Jk, Jk, Jk, Jk, Jk, Jk, Jk, Jk, Jk, Jk, Jk, Jk, Jk, Jk, Jk, Jk, Jk, Jk, Jk, Jk, Jk, Jk, Jk, Jk, aI j2, aI j4] ++ jk 23) [])
theorem z67_s8 (n : Nat) (s0 : ByteArray) (i0 : Nat) (s1 : ByteArray) (j2 : Int) (j3 : Int) (j4 : Int) : z67_l8 n s0 (i0 + 1) s1 j2 j3 j4 =
 bif decide (j4 < j2) then
 if 0 ≤ j4 then
 if j4 < (↑(ByteArray.size s1) : Int) then
 bif decide (j3 < IntKind.wrap IntKind.i64 (Int.tdiv (IntKind.wrap IntKind.i64 (-9223372036854775808 + IntKind.wrap IntKind.i64 (IntKind.wrap IntKind.u8 (bt s1 j4 - 48)))) 10)) then
 some ((0, (false, ())), ())
 else z67_l8 n s0 i0 s1 j2 (IntKind.wrap IntKind.i64 (IntKind.wrap IntKind.i64 (10 * j3) - IntKind.wrap IntKind.i64 (IntKind.wrap IntKind.u8 (bt s1 j4 - 48)))) (IntKind.wrap IntKind.i64 (j4 + 1))
 else none
 else none
 else bif bt s0 0 == 45 then
 some ((j3, (true, ())), ())
 else some ((IntKind.wrap IntKind.i64 (0 - j3), (j3 != -9223372036854775808, ())), ()) := by kernel_rfl
theorem z67_e (n : Nat) (s0 : ByteArray) : z67_v n s0 =
 if 0 < (↑(ByteArray.size s0) : Int) then
 bif bt s0 0 == 45 then
 if 1 ≤ (↑(ByteArray.size s0) : Int) then
 if (↑(ByteArray.size s0) : Int) ≤ (↑(ByteArray.size s0) : Int) then
 bif ByteArray.extract s0 1 (Int.toNat (↑(ByteArray.size s0) : Int)) == ByteArray.mk #[] then
 some ((0, (false, ())), ())
 else if 0 < (↑(ByteArray.size (ByteArray.extract s0 1 (Int.toNat (↑(ByteArray.size s0) : Int)))) : Int) then
 bif bt (ByteArray.extract s0 1 (Int.toNat (↑(ByteArray.size s0) : Int))) 0 == 48 then
 bif bt s0 0 == 45 then
 some ((0, (false, ())), ())
 else bif decide ((↑(ByteArray.size (ByteArray.extract s0 1 (Int.toNat (↑(ByteArray.size s0) : Int)))) : Int) > 1) then
 some ((0, (false, ())), ())
 else z67_l8 n s0 n (ByteArray.extract s0 1 (Int.toNat (↑(ByteArray.size s0) : Int))) ((↑(ByteArray.size (ByteArray.extract s0 1 (Int.toNat (↑(ByteArray.size s0) : Int)))) : Int)) 0 0
 else z67_l8 n s0 n (ByteArray.extract s0 1 (Int.toNat (↑(ByteArray.size s0) : Int))) ((↑(ByteArray.size (ByteArray.extract s0 1 (Int.toNat (↑(ByteArray.size s0) : Int)))) : Int)) 0 0
 else none
 else none
 else none
 else bif s0 == ByteArray.mk #[] then
 some ((0, (false, ())), ())
 else if 0 < (↑(ByteArray.size s0) : Int) then
 bif bt s0 0 == 48 then
 bif bt s0 0 == 45 then
 some ((0, (false, ())), ())
 else bif decide ((↑(ByteArray.size s0) : Int) > 1) then
 some ((0, (false, ())), ())
 else z67_l8 n s0 n s0 ((↑(ByteArray.size s0) : Int)) 0 0
 else z67_l8 n s0 n s0 ((↑(ByteArray.size s0) : Int)) 0 0
 else none
 else none := by kernel_rfl
theorem z67_c (n : Nat) (s0 : ByteArray) (y : (Int × Bool × Unit) × Unit) (h : z67_v n s0 = some y) : Contract Tryz.prog 128 [aS s0] [] (OSh.enc (OSh.plain (.tup [.i .i64, .b]) []) y) :=
 ac (OSh.plain (.tup [.i .i64, .b]) []) (z67_σok n) Tryz.func128 (by decide) h
def z31_lv : Live := []
def z31_σ (n : Nat) : Spec := Spec.none
theorem z31_σok (n : Nat) : SpecOk Tryz.prog (z31_σ n) := (SpecOk.none _)
def z31_Φ (n : Nat) : Orc := with_ Tryz.prog (z31_σ n) [] n 0 hsL
def z31_v (n : Nat) (j0 : Int) : Option (Bool × Unit) :=
 DM.denFn tm (z31_Φ n) z31_lv n Tryz.f158 false [AV.dv (DV.val (Value.int IntKind.u8 j0))] [] (OSh.chk (OSh.plain (.b) []))
theorem z31_e (n : Nat) (j0 : Int) : z31_v n j0 =
 bif decide (j0 ≥ 32) then
 bif decide (j0 ≤ 126) then
 bif j0 != 34 then
 some (j0 != 92, ())
 else some (false, ())
 else some (false, ())
 else some (false, ()) := by kernel_rfl
theorem z31_c (n : Nat) (j0 : Int) (y : Bool × Unit) (h : z31_v n j0 = some y) : Contract Tryz.prog 158 [AV.dv (DV.val (Value.int IntKind.u8 j0))] [] (OSh.enc (OSh.plain (.b) []) y) :=
 ac (OSh.plain (.b) []) (z31_σok n) Tryz.func158 (by decide) h
def z45_lv : Live := [(1, [0, 1, 2], [1000, 1001, 1002, 1003])]
def z45_σ (n : Nat) : Spec := (inst 158 [.i IntKind.u8] [] (OSh.plain (.b) []) (fun x e => z31_v n x.1) Spec.none)
theorem z45_σok (n : Nat) : SpecOk Tryz.prog (z45_σ n) := (inst_ok (fun x e y h => z31_c n x.1 y h) (SpecOk.none _))
def z45_Φ (n : Nat) : Orc := with_ Tryz.prog (z45_σ n) [] n 0 hsL
def z45_v (n : Nat) (s0 : ByteArray) (j1 : Int) : Option (Int × Unit) :=
 DM.denFn tm (z45_Φ n) z45_lv n Tryz.f122 false [aS s0, aI j1, AV.fn 158 []] [] (OSh.chk (OSh.plain (.i .i64) []))
def z45_l1 (n : Nat) (s0 : ByteArray) (j1 : Int) (i0 : Nat) (j3 : Int) : Option (Int × Unit) :=
 DM.loopFn tm (z45_Φ n) z45_lv n Tryz.f122 false [] (OSh.chk (OSh.plain (.i .i64) [])) 1 [] i0 (St.mk ([aS s0, aI j3, AV.fn 158 []] ++ jk 18) [])
theorem z45_s1 (n : Nat) (s0 : ByteArray) (j1 : Int) (i0 : Nat) (j3 : Int) : z45_l1 n s0 j1 (i0 + 1) j3 =
 bif decide (j3 < (↑(ByteArray.size s0) : Int)) then
 if 0 ≤ j3 then
 if j3 < (↑(ByteArray.size s0) : Int) then
 obind (z31_v n (bt s0 j3)) fun y4 =>
 bif y4.fst then
 z45_l1 n s0 j1 i0 (IntKind.wrap IntKind.i64 (j3 + 1))
 else some (j3, ())
 else none
 else none
 else some (j3, ()) := by kernel_rfl
theorem z45_e (n : Nat) (s0 : ByteArray) (j1 : Int) : z45_v n s0 j1 =
 z45_l1 n s0 j1 n j1 := by kernel_rfl
theorem z45_c (n : Nat) (s0 : ByteArray) (j1 : Int) (y : Int × Unit) (h : z45_v n s0 j1 = some y) : Contract Tryz.prog 122 [aS s0, aI j1, AV.fn 158 []] [] (OSh.enc (OSh.plain (.i .i64) []) y) :=
 ac (OSh.plain (.i .i64) []) (z45_σok n) Tryz.func122 (by decide) h
def z54_lv : Live := []
def z54_σ (n : Nat) : Spec := (inst 122 [.s, .i .i64, .fn 158 []] [] (OSh.plain (.i .i64) []) (fun x e => z45_v n x.1 x.2.1) Spec.none)
theorem z54_σok (n : Nat) : SpecOk Tryz.prog (z54_σ n) := (inst_ok (fun x e y h => z45_c n x.1 x.2.1 y h) (SpecOk.none _))
def z54_Φ (n : Nat) : Orc := with_ Tryz.prog (z54_σ n) [] n 0 hsL
def z54_v (n : Nat) (s0 : ByteArray) (j1 : Int) : Option ((ByteArray × Int × Bool × Unit) × Unit) :=
 DM.denFn tm (z54_Φ n) z54_lv n Tryz.f129 false [aS s0, aI j1] [] (OSh.chk (OSh.plain (.tup [.s, .i .i64, .b]) []))
theorem z54_e (n : Nat) (s0 : ByteArray) (j1 : Int) : z54_v n s0 j1 =
 obind (z45_v n s0 (IntKind.wrap IntKind.i64 (j1 + 1))) fun y2 =>
 bif decide (y2.fst ≥ (↑(ByteArray.size s0) : Int)) then
 some ((ByteArray.mk #[], (0, (false, ()))), ())
 else if 0 ≤ y2.fst then
 if y2.fst < (↑(ByteArray.size s0) : Int) then
 bif bt s0 y2.fst != 34 then
 some ((ByteArray.mk #[], (0, (false, ()))), ())
 else if 0 ≤ IntKind.wrap IntKind.i64 (j1 + 1) then
 if IntKind.wrap IntKind.i64 (j1 + 1) ≤ y2.fst then
 if y2.fst ≤ (↑(ByteArray.size s0) : Int) then
 some ((ByteArray.extract s0 (Int.toNat (IntKind.wrap IntKind.i64 (j1 + 1))) (Int.toNat y2.fst), (IntKind.wrap IntKind.i64 (y2.fst + 1), (true, ()))), ())
 else none
 else none
 else none
 else none
 else none := by kernel_rfl
theorem z54_c (n : Nat) (s0 : ByteArray) (j1 : Int) (y : (ByteArray × Int × Bool × Unit) × Unit) (h : z54_v n s0 j1 = some y) : Contract Tryz.prog 129 [aS s0, aI j1] [] (OSh.enc (OSh.plain (.tup [.s, .i .i64, .b]) []) y) :=
 ac (OSh.plain (.tup [.s, .i .i64, .b]) []) (z54_σok n) Tryz.func129 (by decide) h
def z93_lv : Live := []
def z93_σ (n : Nat) : Spec := (inst 125 [.i IntKind.u8] [] (OSh.plain (.b) []) (fun x e => z73_v n x.1) (inst 122 [.s, .i .i64, .fn 124 []] [] (OSh.plain (.i .i64) []) (fun x e => z86_v n x.1 x.2.1) (inst 126 [.i IntKind.u8] [] (OSh.plain (.b) []) (fun x e => z81_v n x.1) (inst 127 [.i IntKind.u8] [] (OSh.plain (.b) []) (fun x e => z84_v n x.1) (inst 122 [.s, .i .i64, .fn 127 []] [] (OSh.plain (.i .i64) []) (fun x e => z88_v n x.1 x.2.1) (inst 128 [.s] [] (OSh.plain (.tup [.i .i64, .b]) []) (fun x e => z67_v n x.1) (inst 129 [.s, .i .i64] [] (OSh.plain (.tup [.s, .i .i64, .b]) []) (fun x e => z54_v n x.1 x.2.1) Spec.none)))))))
theorem z93_σok (n : Nat) : SpecOk Tryz.prog (z93_σ n) := (inst_ok (fun x e y h => z73_c n x.1 y h) (inst_ok (fun x e y h => z86_c n x.1 x.2.1 y h) (inst_ok (fun x e y h => z81_c n x.1 y h) (inst_ok (fun x e y h => z84_c n x.1 y h) (inst_ok (fun x e y h => z88_c n x.1 x.2.1 y h) (inst_ok (fun x e y h => z67_c n x.1 y h) (inst_ok (fun x e y h => z54_c n x.1 x.2.1 y h) (SpecOk.none _))))))))
def z93_Φ (n : Nat) : Orc := with_ Tryz.prog (z93_σ n) [] n 0 hsL
def z93_v (n : Nat) (s0 : ByteArray) (j1 : Int) : Option (((Int × ByteArray × Int × Int × Unit) × Int × Int × Unit) × Unit) :=
 DM.denFn tm (z93_Φ n) z93_lv n Tryz.f70 false [aS s0, aI j1] [] (OSh.chk (OSh.plain (.tup [.agg [.i .i64, .s, .i .i64, .i .i64], .i .i64, .i .i64]) []))
theorem z93_e (n : Nat) (s0 : ByteArray) (j1 : Int) : z93_v n s0 j1 =
 if 0 ≤ j1 then
 if j1 < (↑(ByteArray.size s0) : Int) then
 obind (z73_v n (bt s0 j1)) fun y2 =>
 bif y2.fst then
 obind (z86_v n s0 j1) fun y3 =>
 if 0 ≤ j1 then
 if j1 ≤ y3.fst then
 if y3.fst ≤ (↑(ByteArray.size s0) : Int) then
 bif decide ((↑(ByteArray.size (ByteArray.extract s0 (Int.toNat j1) (Int.toNat y3.fst))) : Int) > 32) then
 some (((1, (ByteArray.extract s0 (Int.toNat j1) (Int.toNat y3.fst), (0, (j1, ())))), (0, (71, ()))), ())
 else some (((1, (ByteArray.extract s0 (Int.toNat j1) (Int.toNat y3.fst), (0, (j1, ())))), (y3.fst, (0, ()))), ())
 else none
 else none
 else none
 else obind (z81_v n (bt s0 j1)) fun y4 =>
 bif y4.fst then
 obind (z86_v n s0 j1) fun y5 =>
 if 0 ≤ j1 then
 if j1 ≤ y5.fst then
 if y5.fst ≤ (↑(ByteArray.size s0) : Int) then
 bif decide ((↑(ByteArray.size (ByteArray.extract s0 (Int.toNat j1) (Int.toNat y5.fst))) : Int) > 32) then
 some (((2, (ByteArray.extract s0 (Int.toNat j1) (Int.toNat y5.fst), (0, (j1, ())))), (0, (71, ()))), ())
 else some (((2, (ByteArray.extract s0 (Int.toNat j1) (Int.toNat y5.fst), (0, (j1, ())))), (y5.fst, (0, ()))), ())
 else none
 else none
 else none
 else obind (z84_v n (bt s0 j1)) fun y6 =>
 bif y6.fst then
 obind (z88_v n s0 (IntKind.wrap IntKind.i64 (j1 + 1))) fun y7 =>
 if 0 ≤ j1 then
 if j1 ≤ y7.fst then
 if y7.fst ≤ (↑(ByteArray.size s0) : Int) then
 obind (z67_v n (ByteArray.extract s0 (Int.toNat j1) (Int.toNat y7.fst))) fun y8 =>
 bif !y8.fst.snd.fst then
 some (((0, (ByteArray.mk #[], (0, (j1, ())))), (0, (70, ()))), ())
 else some (((3, (ByteArray.mk #[], (y8.fst.fst, (j1, ())))), (y7.fst, (0, ()))), ())
 else none
 else none
 else none
 else bif bt s0 j1 == 45 then
 obind (z88_v n s0 (IntKind.wrap IntKind.i64 (j1 + 1))) fun y9 =>
 if 0 ≤ j1 then
 if j1 ≤ y9.fst then
 if y9.fst ≤ (↑(ByteArray.size s0) : Int) then
 obind (z67_v n (ByteArray.extract s0 (Int.toNat j1) (Int.toNat y9.fst))) fun y10 =>
 bif !y10.fst.snd.fst then
 some (((0, (ByteArray.mk #[], (0, (j1, ())))), (0, (70, ()))), ())
 else some (((3, (ByteArray.mk #[], (y10.fst.fst, (j1, ())))), (y9.fst, (0, ()))), ())
 else none
 else none
 else none
 else bif bt s0 j1 == 34 then
 obind (z54_v n s0 j1) fun y11 =>
 bif !y11.fst.snd.snd.fst then
 some (((0, (ByteArray.mk #[], (0, (j1, ())))), (0, (70, ()))), ())
 else bif decide ((↑(ByteArray.size y11.fst.fst) : Int) > 32) then
 some (((4, (y11.fst.fst, (0, (j1, ())))), (0, (71, ()))), ())
 else some (((4, (y11.fst.fst, (0, (j1, ())))), (y11.fst.snd.fst, (0, ()))), ())
 else bif bt s0 j1 == 58 then
 bif decide (IntKind.wrap IntKind.i64 (j1 + 1) < (↑(ByteArray.size s0) : Int)) then
 if 0 ≤ IntKind.wrap IntKind.i64 (j1 + 1) then
 if IntKind.wrap IntKind.i64 (j1 + 1) < (↑(ByteArray.size s0) : Int) then
 bif bt s0 (IntKind.wrap IntKind.i64 (j1 + 1)) == 45 then
 if 0 ≤ j1 then
 if j1 ≤ IntKind.wrap IntKind.i64 (IntKind.wrap IntKind.i64 (j1 + 1) + 1) then
 if IntKind.wrap IntKind.i64 (IntKind.wrap IntKind.i64 (j1 + 1) + 1) ≤ (↑(ByteArray.size s0) : Int) then
 bif decide ((↑(ByteArray.size (ByteArray.extract s0 (Int.toNat j1) (Int.toNat (IntKind.wrap IntKind.i64 (IntKind.wrap IntKind.i64 (j1 + 1) + 1))))) : Int) > 32) then
 some (((5, (ByteArray.extract s0 (Int.toNat j1) (Int.toNat (IntKind.wrap IntKind.i64 (IntKind.wrap IntKind.i64 (j1 + 1) + 1))), (0, (j1, ())))), (0, (71, ()))), ())
 else some (((5, (ByteArray.extract s0 (Int.toNat j1) (Int.toNat (IntKind.wrap IntKind.i64 (IntKind.wrap IntKind.i64 (j1 + 1) + 1))), (0, (j1, ())))), (IntKind.wrap IntKind.i64 (IntKind.wrap IntKind.i64 (j1 + 1) + 1), (0, ()))), ())
 else none
 else none
 else none
 else bif bt s0 j1 == 40 then
 if 0 ≤ j1 then
 if j1 ≤ IntKind.wrap IntKind.i64 (j1 + 1) then
 if IntKind.wrap IntKind.i64 (j1 + 1) ≤ (↑(ByteArray.size s0) : Int) then
 bif decide ((↑(ByteArray.size (ByteArray.extract s0 (Int.toNat j1) (Int.toNat (IntKind.wrap IntKind.i64 (j1 + 1))))) : Int) > 32) then
 some (((5, (ByteArray.extract s0 (Int.toNat j1) (Int.toNat (IntKind.wrap IntKind.i64 (j1 + 1))), (0, (j1, ())))), (0, (71, ()))), ())
 else some (((5, (ByteArray.extract s0 (Int.toNat j1) (Int.toNat (IntKind.wrap IntKind.i64 (j1 + 1))), (0, (j1, ())))), (IntKind.wrap IntKind.i64 (j1 + 1), (0, ()))), ())
 else none
 else none
 else none
 else bif bt s0 j1 == 41 then
 if 0 ≤ j1 then
 if j1 ≤ IntKind.wrap IntKind.i64 (j1 + 1) then
 if IntKind.wrap IntKind.i64 (j1 + 1) ≤ (↑(ByteArray.size s0) : Int) then
 bif decide ((↑(ByteArray.size (ByteArray.extract s0 (Int.toNat j1) (Int.toNat (IntKind.wrap IntKind.i64 (j1 + 1))))) : Int) > 32) then
 some (((5, (ByteArray.extract s0 (Int.toNat j1) (Int.toNat (IntKind.wrap IntKind.i64 (j1 + 1))), (0, (j1, ())))), (0, (71, ()))), ())
 else some (((5, (ByteArray.extract s0 (Int.toNat j1) (Int.toNat (IntKind.wrap IntKind.i64 (j1 + 1))), (0, (j1, ())))), (IntKind.wrap IntKind.i64 (j1 + 1), (0, ()))), ())
 else none
 else none
 else none
 else bif bt s0 j1 == 44 then
 if 0 ≤ j1 then
 if j1 ≤ IntKind.wrap IntKind.i64 (j1 + 1) then
 if IntKind.wrap IntKind.i64 (j1 + 1) ≤ (↑(ByteArray.size s0) : Int) then
 bif decide ((↑(ByteArray.size (ByteArray.extract s0 (Int.toNat j1) (Int.toNat (IntKind.wrap IntKind.i64 (j1 + 1))))) : Int) > 32) then
 some (((5, (ByteArray.extract s0 (Int.toNat j1) (Int.toNat (IntKind.wrap IntKind.i64 (j1 + 1))), (0, (j1, ())))), (0, (71, ()))), ())
 else some (((5, (ByteArray.extract s0 (Int.toNat j1) (Int.toNat (IntKind.wrap IntKind.i64 (j1 + 1))), (0, (j1, ())))), (IntKind.wrap IntKind.i64 (j1 + 1), (0, ()))), ())
 else none
 else none
 else none
 else bif bt s0 j1 == 46 then
 if 0 ≤ j1 then
 if j1 ≤ IntKind.wrap IntKind.i64 (j1 + 1) then
 if IntKind.wrap IntKind.i64 (j1 + 1) ≤ (↑(ByteArray.size s0) : Int) then
 bif decide ((↑(ByteArray.size (ByteArray.extract s0 (Int.toNat j1) (Int.toNat (IntKind.wrap IntKind.i64 (j1 + 1))))) : Int) > 32) then
 some (((5, (ByteArray.extract s0 (Int.toNat j1) (Int.toNat (IntKind.wrap IntKind.i64 (j1 + 1))), (0, (j1, ())))), (0, (71, ()))), ())
 else some (((5, (ByteArray.extract s0 (Int.toNat j1) (Int.toNat (IntKind.wrap IntKind.i64 (j1 + 1))), (0, (j1, ())))), (IntKind.wrap IntKind.i64 (j1 + 1), (0, ()))), ())
 else none
 else none
 else none
 else bif bt s0 j1 == 58 then
 if 0 ≤ j1 then
 if j1 ≤ IntKind.wrap IntKind.i64 (j1 + 1) then
 if IntKind.wrap IntKind.i64 (j1 + 1) ≤ (↑(ByteArray.size s0) : Int) then
 bif decide ((↑(ByteArray.size (ByteArray.extract s0 (Int.toNat j1) (Int.toNat (IntKind.wrap IntKind.i64 (j1 + 1))))) : Int) > 32) then
 some (((5, (ByteArray.extract s0 (Int.toNat j1) (Int.toNat (IntKind.wrap IntKind.i64 (j1 + 1))), (0, (j1, ())))), (0, (71, ()))), ())
 else some (((5, (ByteArray.extract s0 (Int.toNat j1) (Int.toNat (IntKind.wrap IntKind.i64 (j1 + 1))), (0, (j1, ())))), (IntKind.wrap IntKind.i64 (j1 + 1), (0, ()))), ())
 else none
 else none
 else none
 else some (((0, (ByteArray.mk #[], (0, (j1, ())))), (0, (70, ()))), ())
 else none
 else none
 else bif bt s0 j1 == 40 then
 if 0 ≤ j1 then
 if j1 ≤ IntKind.wrap IntKind.i64 (j1 + 1) then
 if IntKind.wrap IntKind.i64 (j1 + 1) ≤ (↑(ByteArray.size s0) : Int) then
 bif decide ((↑(ByteArray.size (ByteArray.extract s0 (Int.toNat j1) (Int.toNat (IntKind.wrap IntKind.i64 (j1 + 1))))) : Int) > 32) then
 some (((5, (ByteArray.extract s0 (Int.toNat j1) (Int.toNat (IntKind.wrap IntKind.i64 (j1 + 1))), (0, (j1, ())))), (0, (71, ()))), ())
 else some (((5, (ByteArray.extract s0 (Int.toNat j1) (Int.toNat (IntKind.wrap IntKind.i64 (j1 + 1))), (0, (j1, ())))), (IntKind.wrap IntKind.i64 (j1 + 1), (0, ()))), ())
 else none
 else none
 else none
 else bif bt s0 j1 == 41 then
 if 0 ≤ j1 then
 if j1 ≤ IntKind.wrap IntKind.i64 (j1 + 1) then
 if IntKind.wrap IntKind.i64 (j1 + 1) ≤ (↑(ByteArray.size s0) : Int) then
 bif decide ((↑(ByteArray.size (ByteArray.extract s0 (Int.toNat j1) (Int.toNat (IntKind.wrap IntKind.i64 (j1 + 1))))) : Int) > 32) then
 some (((5, (ByteArray.extract s0 (Int.toNat j1) (Int.toNat (IntKind.wrap IntKind.i64 (j1 + 1))), (0, (j1, ())))), (0, (71, ()))), ())
 else some (((5, (ByteArray.extract s0 (Int.toNat j1) (Int.toNat (IntKind.wrap IntKind.i64 (j1 + 1))), (0, (j1, ())))), (IntKind.wrap IntKind.i64 (j1 + 1), (0, ()))), ())
 else none
 else none
 else none
 else bif bt s0 j1 == 44 then
 if 0 ≤ j1 then
 if j1 ≤ IntKind.wrap IntKind.i64 (j1 + 1) then
 if IntKind.wrap IntKind.i64 (j1 + 1) ≤ (↑(ByteArray.size s0) : Int) then
 bif decide ((↑(ByteArray.size (ByteArray.extract s0 (Int.toNat j1) (Int.toNat (IntKind.wrap IntKind.i64 (j1 + 1))))) : Int) > 32) then
 some (((5, (ByteArray.extract s0 (Int.toNat j1) (Int.toNat (IntKind.wrap IntKind.i64 (j1 + 1))), (0, (j1, ())))), (0, (71, ()))), ())
 else some (((5, (ByteArray.extract s0 (Int.toNat j1) (Int.toNat (IntKind.wrap IntKind.i64 (j1 + 1))), (0, (j1, ())))), (IntKind.wrap IntKind.i64 (j1 + 1), (0, ()))), ())
 else none
 else none
 else none
 else bif bt s0 j1 == 46 then
 if 0 ≤ j1 then
 if j1 ≤ IntKind.wrap IntKind.i64 (j1 + 1) then
 if IntKind.wrap IntKind.i64 (j1 + 1) ≤ (↑(ByteArray.size s0) : Int) then
 bif decide ((↑(ByteArray.size (ByteArray.extract s0 (Int.toNat j1) (Int.toNat (IntKind.wrap IntKind.i64 (j1 + 1))))) : Int) > 32) then
 some (((5, (ByteArray.extract s0 (Int.toNat j1) (Int.toNat (IntKind.wrap IntKind.i64 (j1 + 1))), (0, (j1, ())))), (0, (71, ()))), ())
 else some (((5, (ByteArray.extract s0 (Int.toNat j1) (Int.toNat (IntKind.wrap IntKind.i64 (j1 + 1))), (0, (j1, ())))), (IntKind.wrap IntKind.i64 (j1 + 1), (0, ()))), ())
 else none
 else none
 else none
 else bif bt s0 j1 == 58 then
 if 0 ≤ j1 then
 if j1 ≤ IntKind.wrap IntKind.i64 (j1 + 1) then
 if IntKind.wrap IntKind.i64 (j1 + 1) ≤ (↑(ByteArray.size s0) : Int) then
 bif decide ((↑(ByteArray.size (ByteArray.extract s0 (Int.toNat j1) (Int.toNat (IntKind.wrap IntKind.i64 (j1 + 1))))) : Int) > 32) then
 some (((5, (ByteArray.extract s0 (Int.toNat j1) (Int.toNat (IntKind.wrap IntKind.i64 (j1 + 1))), (0, (j1, ())))), (0, (71, ()))), ())
 else some (((5, (ByteArray.extract s0 (Int.toNat j1) (Int.toNat (IntKind.wrap IntKind.i64 (j1 + 1))), (0, (j1, ())))), (IntKind.wrap IntKind.i64 (j1 + 1), (0, ()))), ())
 else none
 else none
 else none
 else some (((0, (ByteArray.mk #[], (0, (j1, ())))), (0, (70, ()))), ())
 else bif bt s0 j1 == 40 then
 if 0 ≤ j1 then
 if j1 ≤ IntKind.wrap IntKind.i64 (j1 + 1) then
 if IntKind.wrap IntKind.i64 (j1 + 1) ≤ (↑(ByteArray.size s0) : Int) then
 bif decide ((↑(ByteArray.size (ByteArray.extract s0 (Int.toNat j1) (Int.toNat (IntKind.wrap IntKind.i64 (j1 + 1))))) : Int) > 32) then
 some (((5, (ByteArray.extract s0 (Int.toNat j1) (Int.toNat (IntKind.wrap IntKind.i64 (j1 + 1))), (0, (j1, ())))), (0, (71, ()))), ())
 else some (((5, (ByteArray.extract s0 (Int.toNat j1) (Int.toNat (IntKind.wrap IntKind.i64 (j1 + 1))), (0, (j1, ())))), (IntKind.wrap IntKind.i64 (j1 + 1), (0, ()))), ())
 else none
 else none
 else none
 else bif bt s0 j1 == 41 then
 if 0 ≤ j1 then
 if j1 ≤ IntKind.wrap IntKind.i64 (j1 + 1) then
 if IntKind.wrap IntKind.i64 (j1 + 1) ≤ (↑(ByteArray.size s0) : Int) then
 bif decide ((↑(ByteArray.size (ByteArray.extract s0 (Int.toNat j1) (Int.toNat (IntKind.wrap IntKind.i64 (j1 + 1))))) : Int) > 32) then
 some (((5, (ByteArray.extract s0 (Int.toNat j1) (Int.toNat (IntKind.wrap IntKind.i64 (j1 + 1))), (0, (j1, ())))), (0, (71, ()))), ())
 else some (((5, (ByteArray.extract s0 (Int.toNat j1) (Int.toNat (IntKind.wrap IntKind.i64 (j1 + 1))), (0, (j1, ())))), (IntKind.wrap IntKind.i64 (j1 + 1), (0, ()))), ())
 else none
 else none
 else none
 else bif bt s0 j1 == 44 then
 if 0 ≤ j1 then
 if j1 ≤ IntKind.wrap IntKind.i64 (j1 + 1) then
 if IntKind.wrap IntKind.i64 (j1 + 1) ≤ (↑(ByteArray.size s0) : Int) then
 bif decide ((↑(ByteArray.size (ByteArray.extract s0 (Int.toNat j1) (Int.toNat (IntKind.wrap IntKind.i64 (j1 + 1))))) : Int) > 32) then
 some (((5, (ByteArray.extract s0 (Int.toNat j1) (Int.toNat (IntKind.wrap IntKind.i64 (j1 + 1))), (0, (j1, ())))), (0, (71, ()))), ())
 else some (((5, (ByteArray.extract s0 (Int.toNat j1) (Int.toNat (IntKind.wrap IntKind.i64 (j1 + 1))), (0, (j1, ())))), (IntKind.wrap IntKind.i64 (j1 + 1), (0, ()))), ())
 else none
 else none
 else none
 else bif bt s0 j1 == 46 then
 if 0 ≤ j1 then
 if j1 ≤ IntKind.wrap IntKind.i64 (j1 + 1) then
 if IntKind.wrap IntKind.i64 (j1 + 1) ≤ (↑(ByteArray.size s0) : Int) then
 bif decide ((↑(ByteArray.size (ByteArray.extract s0 (Int.toNat j1) (Int.toNat (IntKind.wrap IntKind.i64 (j1 + 1))))) : Int) > 32) then
 some (((5, (ByteArray.extract s0 (Int.toNat j1) (Int.toNat (IntKind.wrap IntKind.i64 (j1 + 1))), (0, (j1, ())))), (0, (71, ()))), ())
 else some (((5, (ByteArray.extract s0 (Int.toNat j1) (Int.toNat (IntKind.wrap IntKind.i64 (j1 + 1))), (0, (j1, ())))), (IntKind.wrap IntKind.i64 (j1 + 1), (0, ()))), ())
 else none
 else none
 else none
 else bif bt s0 j1 == 58 then
 if 0 ≤ j1 then
 if j1 ≤ IntKind.wrap IntKind.i64 (j1 + 1) then
 if IntKind.wrap IntKind.i64 (j1 + 1) ≤ (↑(ByteArray.size s0) : Int) then
 bif decide ((↑(ByteArray.size (ByteArray.extract s0 (Int.toNat j1) (Int.toNat (IntKind.wrap IntKind.i64 (j1 + 1))))) : Int) > 32) then
 some (((5, (ByteArray.extract s0 (Int.toNat j1) (Int.toNat (IntKind.wrap IntKind.i64 (j1 + 1))), (0, (j1, ())))), (0, (71, ()))), ())
 else some (((5, (ByteArray.extract s0 (Int.toNat j1) (Int.toNat (IntKind.wrap IntKind.i64 (j1 + 1))), (0, (j1, ())))), (IntKind.wrap IntKind.i64 (j1 + 1), (0, ()))), ())
 else none
 else none
 else none
 else some (((0, (ByteArray.mk #[], (0, (j1, ())))), (0, (70, ()))), ())
 else none
 else none := by kernel_rfl
theorem z93_c (n : Nat) (s0 : ByteArray) (j1 : Int) (y : ((Int × ByteArray × Int × Int × Unit) × Int × Int × Unit) × Unit) (h : z93_v n s0 j1 = some y) : Contract Tryz.prog 70 [aS s0, aI j1] [] (OSh.enc (OSh.plain (.tup [.agg [.i .i64, .s, .i .i64, .i .i64], .i .i64, .i .i64]) []) y) :=
 ac (OSh.plain (.tup [.agg [.i .i64, .s, .i .i64, .i .i64], .i .i64, .i .i64]) []) (z93_σok n) Tryz.func70 (by decide) h
def z63_lv : Live := [(4, [0, 2, 3], [1000, 1001, 1002, 1003])]
def z63_σ (n : Nat) : Spec := (inst 69 [.s, .i .i64] [] (OSh.plain (.i .i64) []) (fun x e => z89_v n x.1 x.2.1) (inst 70 [.s, .i .i64] [] (OSh.plain (.tup [.agg [.i .i64, .s, .i .i64, .i .i64], .i .i64, .i .i64]) []) (fun x e => z93_v n x.1 x.2.1) Spec.none))
theorem z63_σok (n : Nat) : SpecOk Tryz.prog (z63_σ n) := (inst_ok (fun x e y h => z89_c n x.1 x.2.1 y h) (inst_ok (fun x e y h => z93_c n x.1 x.2.1 y h) (SpecOk.none _)))
def z63_Φ (n : Nat) : Orc := with_ Tryz.prog (z63_σ n) [] n 0 hsL
def z63_v (n : Nat) (s0 : ByteArray) : Option (((Bool × Rows) × Int × Int × Unit) × Unit) :=
 DM.denFn tm (z63_Φ n) z63_lv n Tryz.f31 false [aS s0] [] (OSh.chk (OSh.plain (.tup [.sl kdK, .i .i64, .i .i64]) []))
def z63_l4 (n : Nat) (s0 : ByteArray) (i0 : Nat) (j2 : Int) (b5 : Bool) (r6 : List (List DV)) : Option (((Bool × Rows) × Int × Int × Unit) × Unit) :=
 DM.loopFn tm (z63_Φ n) z63_lv n Tryz.f31 false [] (OSh.chk (OSh.plain (.tup [.sl kdK, .i .i64, .i .i64]) [])) 4 [] i0 (St.mk ([aS s0, Jk, AV.sl b5 kdK r6 (Right.tok 2), aI j2] ++ jk 32) [])
theorem z63_s4 (n : Nat) (s0 : ByteArray) (i0 : Nat) (j2 : Int) (b5 : Bool) (r6 : List (List DV)) : z63_l4 n s0 (i0 + 1) j2 b5 r6 =
 bif decide (j2 < (↑(ByteArray.size s0) : Int)) then
 obind (z93_v n s0 j2) fun y7 =>
 bif y7.fst.snd.snd.fst != 0 then
 some (((true, []), (j2, (y7.fst.snd.snd.fst, ()))), ())
 else if (List.length r6 + List.length [[DV.val (Value.int .i64 y7.fst.fst.fst), DV.val (Value.string y7.fst.fst.snd.fst), DV.val (Value.int .i64 y7.fst.fst.snd.snd.fst), DV.val (Value.int .i64 y7.fst.fst.snd.snd.snd.fst)]]) * 40 ≤ 140737488355328 then
 obind (z89_v n s0 y7.fst.snd.fst) fun y8 =>
 z63_l4 n s0 i0 y8.fst (b5 && List.isEmpty [[DV.val (Value.int .i64 y7.fst.fst.fst), DV.val (Value.string y7.fst.fst.snd.fst), DV.val (Value.int .i64 y7.fst.fst.snd.snd.fst), DV.val (Value.int .i64 y7.fst.fst.snd.snd.snd.fst)]]) (appX r6 [[DV.val (Value.int .i64 y7.fst.fst.fst), DV.val (Value.string y7.fst.fst.snd.fst), DV.val (Value.int .i64 y7.fst.fst.snd.snd.fst), DV.val (Value.int .i64 y7.fst.fst.snd.snd.snd.fst)]])
 else none
 else some (((b5, r6), (0, (0, ()))), ()) := by kernel_rfl
theorem z63_e (n : Nat) (s0 : ByteArray) : z63_v n s0 =
 bif decide ((↑(ByteArray.size s0) : Int) > 4096) then
 some (((true, []), (0, (3, ()))), ())
 else obind (z89_v n s0 0) fun y1 =>
 z63_l4 n s0 n y1.fst true [] := by kernel_rfl
theorem z63_c (n : Nat) (s0 : ByteArray) (y : ((Bool × Rows) × Int × Int × Unit) × Unit) (h : z63_v n s0 = some y) : Contract Tryz.prog 31 [aS s0] [] (OSh.enc (OSh.plain (.tup [.sl kdK, .i .i64, .i .i64]) []) y) :=
 ac (OSh.plain (.tup [.sl kdK, .i .i64, .i .i64]) []) (z63_σok n) Tryz.func31 (by decide) h
def z91_lv : Live := []
def z91_σ (n : Nat) : Spec := Spec.none
theorem z91_σok (n : Nat) : SpecOk Tryz.prog (z91_σ n) := (SpecOk.none _)
def z91_Φ (n : Nat) : Orc := with_ Tryz.prog (z91_σ n) [] n 0 hsL
def z91_v (n : Nat) (b0 : Bool) (r1 : Rows) (j2 : Int) : Option ((Int × ByteArray × Int × Int × Unit) × ((Bool × Rows) × Int × Unit) × Unit) :=
 DM.denFn tm (z91_Φ n) z91_lv n Tryz.f71 false [AV.pl 1000 0] [[AV.sl b0 kdK r1 Right.no, aI j2]] (OSh.chk (OSh.plain (.agg [.i .i64, .s, .i .i64, .i .i64]) [[.sl kdK, .i .i64]]))
theorem z91_e (n : Nat) (b0 : Bool) (r1 : Rows) (j2 : Int) : z91_v n b0 r1 j2 =
 bif (↑(List.length r1) : Int) == 0 then
 some ((0, (ByteArray.mk #[], (0, (j2, ())))), (((b0, r1), (j2, ())), ()))
 else if 0 < (↑(List.length r1) : Int) then
 some ((Row.I (List.getD r1 0 []) 0, (Row.S (List.getD r1 0 []) 1, (Row.I (List.getD r1 0 []) 2, (Row.I (List.getD r1 0 []) 3, ())))), (((b0, r1), (j2, ())), ()))
 else none := by kernel_rfl
theorem z91_c (n : Nat) (b0 : Bool) (r1 : Rows) (j2 : Int) (y : (Int × ByteArray × Int × Int × Unit) × ((Bool × Rows) × Int × Unit) × Unit) (h : z91_v n b0 r1 j2 = some y) : Contract Tryz.prog 71 [AV.pl 1000 0] [[AV.sl b0 kdK r1 Right.no, aI j2]] (OSh.enc (OSh.plain (.agg [.i .i64, .s, .i .i64, .i .i64]) [[.sl kdK, .i .i64]]) y) :=
 ac (OSh.plain (.agg [.i .i64, .s, .i .i64, .i .i64]) [[.sl kdK, .i .i64]]) (z91_σok n) Tryz.func71 (by decide) h
def z65_lv : Live := []
def z65_σ (n : Nat) : Spec := Spec.none
theorem z65_σok (n : Nat) : SpecOk Tryz.prog (z65_σ n) := (SpecOk.none _)
def z65_Φ (n : Nat) : Orc := with_ Tryz.prog (z65_σ n) [] n 0 hsL
def z65_v (n : Nat) (s0 : ByteArray) : Option (Bool × Unit) :=
 DM.denFn tm (z65_Φ n) z65_lv n Tryz.f72 false [aS s0] [] (OSh.chk (OSh.plain (.b) []))
theorem z65_e (n : Nat) (s0 : ByteArray) : z65_v n s0 =
 bif s0 == ByteArray.mk #[115, 97, 121, 115] then
 some (true, ())
 else bif s0 == ByteArray.mk #[116, 111] then
 some (true, ())
 else some (s0 == ByteArray.mk #[97, 116], ()) := by kernel_rfl
theorem z65_c (n : Nat) (s0 : ByteArray) (y : Bool × Unit) (h : z65_v n s0 = some y) : Contract Tryz.prog 72 [aS s0] [] (OSh.enc (OSh.plain (.b) []) y) :=
 ac (OSh.plain (.b) []) (z65_σok n) Tryz.func72 (by decide) h
def z71_lv : Live := []
def z71_σ (n : Nat) : Spec := (inst 71 [.pl 1000 0] [[.sl kdK, .i .i64]] (OSh.plain (.agg [.i .i64, .s, .i .i64, .i .i64]) [[.sl kdK, .i .i64]]) (fun x e => z91_v n e.1.1.1 e.1.1.2 e.1.2.1) (inst 72 [.s] [] (OSh.plain (.b) []) (fun x e => z65_v n x.1) Spec.none))
theorem z71_σok (n : Nat) : SpecOk Tryz.prog (z71_σ n) := (inst_ok (fun x e y h => z91_c n e.1.1.1 e.1.1.2 e.1.2.1 y h) (inst_ok (fun x e y h => z65_c n x.1 y h) (SpecOk.none _)))
def z71_Φ (n : Nat) : Orc := with_ Tryz.prog (z71_σ n) [] n 0 hsL
def z71_v (n : Nat) (b0 : Bool) (r1 : Rows) (j2 : Int) : Option (Bool × ((Bool × Rows) × Int × Unit) × Unit) :=
 DM.denFn tm (z71_Φ n) z71_lv n Tryz.f33 false [AV.pl 1000 0] [[AV.sl b0 kdK r1 Right.no, aI j2]] (OSh.chk (OSh.plain (.b) [[.sl kdK, .i .i64]]))
theorem z71_e (n : Nat) (b0 : Bool) (r1 : Rows) (j2 : Int) : z71_v n b0 r1 j2 =
 obind (z91_v n b0 r1 j2) fun y3 =>
 bif y3.fst.fst == 2 then
 some (true, (((y3.snd.fst.fst.fst, y3.snd.fst.fst.snd), (y3.snd.fst.snd.fst, ())), ()))
 else bif y3.fst.fst == 3 then
 some (true, (((y3.snd.fst.fst.fst, y3.snd.fst.fst.snd), (y3.snd.fst.snd.fst, ())), ()))
 else bif y3.fst.fst == 1 then
 obind (z65_v n y3.fst.snd.fst) fun y4 =>
 bif !y4.fst then
 some (true, (((y3.snd.fst.fst.fst, y3.snd.fst.fst.snd), (y3.snd.fst.snd.fst, ())), ()))
 else bif y3.fst.fst == 4 then
 some (!y3.fst.snd.fst == ByteArray.mk #[], (((y3.snd.fst.fst.fst, y3.snd.fst.fst.snd), (y3.snd.fst.snd.fst, ())), ()))
 else some (false, (((y3.snd.fst.fst.fst, y3.snd.fst.fst.snd), (y3.snd.fst.snd.fst, ())), ()))
 else bif y3.fst.fst == 4 then
 some (!y3.fst.snd.fst == ByteArray.mk #[], (((y3.snd.fst.fst.fst, y3.snd.fst.fst.snd), (y3.snd.fst.snd.fst, ())), ()))
 else some (false, (((y3.snd.fst.fst.fst, y3.snd.fst.fst.snd), (y3.snd.fst.snd.fst, ())), ())) := by kernel_rfl
theorem z71_c (n : Nat) (b0 : Bool) (r1 : Rows) (j2 : Int) (y : Bool × ((Bool × Rows) × Int × Unit) × Unit) (h : z71_v n b0 r1 j2 = some y) : Contract Tryz.prog 33 [AV.pl 1000 0] [[AV.sl b0 kdK r1 Right.no, aI j2]] (OSh.enc (OSh.plain (.b) [[.sl kdK, .i .i64]]) y) :=
 ac (OSh.plain (.b) [[.sl kdK, .i .i64]]) (z71_σok n) Tryz.func33 (by decide) h
def z101_lv : Live := []
def z101_σ (n : Nat) : Spec := (inst 71 [.pl 1000 0] [[.sl kdK, .i .i64]] (OSh.plain (.agg [.i .i64, .s, .i .i64, .i .i64]) [[.sl kdK, .i .i64]]) (fun x e => z91_v n e.1.1.1 e.1.1.2 e.1.2.1) Spec.none)
theorem z101_σok (n : Nat) : SpecOk Tryz.prog (z101_σ n) := (inst_ok (fun x e y h => z91_c n e.1.1.1 e.1.1.2 e.1.2.1 y h) (SpecOk.none _))
def z101_Φ (n : Nat) : Orc := with_ Tryz.prog (z101_σ n) [] n 0 hsL
def z101_v (n : Nat) (j0 : Int) (b1 : Bool) (r2 : Rows) (j3 : Int) : Option (Bool × Unit × (Int × Int × Unit) × ((Bool × Rows) × Int × Unit) × Unit) :=
 DM.denFn tm (z101_Φ n) z101_lv n Tryz.f34 false [AV.pl 1000 0, aI j0] [[AV.sl b1 kdK r2 Right.no, aI j3]] (OSh.chk (OSh.pan (.junk) (.ifc 79 (.agg [.i .i64, .i .i64])) [[.sl kdK, .i .i64]]))
theorem z101_e (n : Nat) (j0 : Int) (b1 : Bool) (r2 : Rows) (j3 : Int) : z101_v n j0 b1 r2 j3 =
 obind (z91_v n b1 r2 j3) fun y4 =>
 some (true, Sh.dflt (.junk), (y4.fst.snd.snd.snd.fst, (j0, ())), (((y4.snd.fst.fst.fst, y4.snd.fst.fst.snd), (y4.snd.fst.snd.fst, ())), ())) := by kernel_rfl
theorem z101_c (n : Nat) (j0 : Int) (b1 : Bool) (r2 : Rows) (j3 : Int) (y : Bool × Unit × (Int × Int × Unit) × ((Bool × Rows) × Int × Unit) × Unit) (h : z101_v n j0 b1 r2 j3 = some y) : Contract Tryz.prog 34 [AV.pl 1000 0, aI j0] [[AV.sl b1 kdK r2 Right.no, aI j3]] (OSh.enc (OSh.pan (.junk) (.ifc 79 (.agg [.i .i64, .i .i64])) [[.sl kdK, .i .i64]]) y) :=
 ac (OSh.pan (.junk) (.ifc 79 (.agg [.i .i64, .i .i64])) [[.sl kdK, .i .i64]]) (z101_σok n) Tryz.func34 (by decide) h
def z92_lv : Live := []
def z92_σ (n : Nat) : Spec := (inst 33 [.pl 1000 0] [[.sl kdK, .i .i64]] (OSh.plain (.b) [[.sl kdK, .i .i64]]) (fun x e => z71_v n e.1.1.1 e.1.1.2 e.1.2.1) (inst 34 [.pl 1000 0, .i .i64] [[.sl kdK, .i .i64]] (OSh.pan (.junk) (.ifc 79 (.agg [.i .i64, .i .i64])) [[.sl kdK, .i .i64]]) (fun x e => z101_v n x.2.1 e.1.1.1 e.1.1.2 e.1.2.1) (inst 71 [.pl 1000 0] [[.sl kdK, .i .i64]] (OSh.plain (.agg [.i .i64, .s, .i .i64, .i .i64]) [[.sl kdK, .i .i64]]) (fun x e => z91_v n e.1.1.1 e.1.1.2 e.1.2.1) Spec.none)))
theorem z92_σok (n : Nat) : SpecOk Tryz.prog (z92_σ n) := (inst_ok (fun x e y h => z71_c n e.1.1.1 e.1.1.2 e.1.2.1 y h) (inst_ok (fun x e y h => z101_c n x.2.1 e.1.1.1 e.1.1.2 e.1.2.1 y h) (inst_ok (fun x e y h => z91_c n e.1.1.1 e.1.1.2 e.1.2.1 y h) (SpecOk.none _))))
def z92_Φ (n : Nat) : Orc := with_ Tryz.prog (z92_σ n) [] n 0 hsL
def z92_v (n : Nat) (b0 : Bool) (r1 : Rows) (j2 : Int) : Option (Bool × (ByteArray × Bool × Int × ByteArray × Unit) × (Int × Int × Unit) × ((Bool × Rows) × Int × Unit) × Unit) :=
 DM.denFn tm (z92_Φ n) z92_lv n Tryz.f73 false [AV.pl 1000 0] [[AV.sl b0 kdK r1 Right.no, aI j2]] (OSh.chk (OSh.pan (.agg [.s, .b, .i .i64, .s]) (.ifc 79 (.agg [.i .i64, .i .i64])) [[.sl kdK, .i .i64]]))
theorem z92_e (n : Nat) (b0 : Bool) (r1 : Rows) (j2 : Int) : z92_v n b0 r1 j2 =
 obind (z71_v n b0 r1 j2) fun y3 =>
 bif !y3.fst then
 obind (z101_v n 80 y3.snd.fst.fst.fst y3.snd.fst.fst.snd y3.snd.fst.snd.fst) fun y4 =>
 bif y4.fst then
 some (true, Sh.dflt (.agg [.s, .b, .i .i64, .s]), (y4.snd.snd.fst.fst, (y4.snd.snd.fst.snd.fst, ())), (((y4.snd.snd.snd.fst.fst.fst, y4.snd.snd.snd.fst.fst.snd), (y4.snd.snd.snd.fst.snd.fst, ())), ()))
 else obind (z91_v n y4.snd.snd.snd.fst.fst.fst y4.snd.snd.snd.fst.fst.snd y4.snd.snd.snd.fst.snd.fst) fun y5 =>
 if 1 ≤ (↑(List.length y5.snd.fst.fst.snd) : Int) then
 if (↑(List.length y5.snd.fst.fst.snd) : Int) ≤ (↑(List.length y5.snd.fst.fst.snd) : Int) then
 bif y5.fst.fst == 2 then
 some (false, (y5.fst.snd.fst, (false, (0, (ByteArray.mk #[], ())))), Sh.dflt (.ifc 79 (.agg [.i .i64, .i .i64])), (((y5.snd.fst.fst.fst, List.drop 1 (List.take (Int.toNat (↑(List.length y5.snd.fst.fst.snd) : Int)) y5.snd.fst.fst.snd)), (y5.snd.fst.snd.fst, ())), ()))
 else bif y5.fst.fst == 3 then
 some (false, (ByteArray.mk #[], (true, (y5.fst.snd.snd.fst, (ByteArray.mk #[], ())))), Sh.dflt (.ifc 79 (.agg [.i .i64, .i .i64])), (((y5.snd.fst.fst.fst, List.drop 1 (List.take (Int.toNat (↑(List.length y5.snd.fst.fst.snd) : Int)) y5.snd.fst.fst.snd)), (y5.snd.fst.snd.fst, ())), ()))
 else some (false, (ByteArray.mk #[], (false, (0, (y5.fst.snd.fst, ())))), Sh.dflt (.ifc 79 (.agg [.i .i64, .i .i64])), (((y5.snd.fst.fst.fst, List.drop 1 (List.take (Int.toNat (↑(List.length y5.snd.fst.fst.snd) : Int)) y5.snd.fst.fst.snd)), (y5.snd.fst.snd.fst, ())), ()))
 else none
 else none
 else obind (z91_v n y3.snd.fst.fst.fst y3.snd.fst.fst.snd y3.snd.fst.snd.fst) fun y6 =>
 if 1 ≤ (↑(List.length y6.snd.fst.fst.snd) : Int) then
 if (↑(List.length y6.snd.fst.fst.snd) : Int) ≤ (↑(List.length y6.snd.fst.fst.snd) : Int) then
 bif y6.fst.fst == 2 then
 some (false, (y6.fst.snd.fst, (false, (0, (ByteArray.mk #[], ())))), Sh.dflt (.ifc 79 (.agg [.i .i64, .i .i64])), (((y6.snd.fst.fst.fst, List.drop 1 (List.take (Int.toNat (↑(List.length y6.snd.fst.fst.snd) : Int)) y6.snd.fst.fst.snd)), (y6.snd.fst.snd.fst, ())), ()))
 else bif y6.fst.fst == 3 then
 some (false, (ByteArray.mk #[], (true, (y6.fst.snd.snd.fst, (ByteArray.mk #[], ())))), Sh.dflt (.ifc 79 (.agg [.i .i64, .i .i64])), (((y6.snd.fst.fst.fst, List.drop 1 (List.take (Int.toNat (↑(List.length y6.snd.fst.fst.snd) : Int)) y6.snd.fst.fst.snd)), (y6.snd.fst.snd.fst, ())), ()))
 else some (false, (ByteArray.mk #[], (false, (0, (y6.fst.snd.fst, ())))), Sh.dflt (.ifc 79 (.agg [.i .i64, .i .i64])), (((y6.snd.fst.fst.fst, List.drop 1 (List.take (Int.toNat (↑(List.length y6.snd.fst.fst.snd) : Int)) y6.snd.fst.fst.snd)), (y6.snd.fst.snd.fst, ())), ()))
 else none
 else none := by kernel_rfl
theorem z92_c (n : Nat) (b0 : Bool) (r1 : Rows) (j2 : Int) (y : Bool × (ByteArray × Bool × Int × ByteArray × Unit) × (Int × Int × Unit) × ((Bool × Rows) × Int × Unit) × Unit) (h : z92_v n b0 r1 j2 = some y) : Contract Tryz.prog 73 [AV.pl 1000 0] [[AV.sl b0 kdK r1 Right.no, aI j2]] (OSh.enc (OSh.pan (.agg [.s, .b, .i .i64, .s]) (.ifc 79 (.agg [.i .i64, .i .i64])) [[.sl kdK, .i .i64]]) y) :=
 ac (OSh.pan (.agg [.s, .b, .i .i64, .s]) (.ifc 79 (.agg [.i .i64, .i .i64])) [[.sl kdK, .i .i64]]) (z92_σok n) Tryz.func73 (by decide) h
def z102_lv : Live := []
def z102_σ (n : Nat) : Spec := (inst 71 [.pl 1000 0] [[.sl kdK, .i .i64]] (OSh.plain (.agg [.i .i64, .s, .i .i64, .i .i64]) [[.sl kdK, .i .i64]]) (fun x e => z91_v n e.1.1.1 e.1.1.2 e.1.2.1) (inst 72 [.s] [] (OSh.plain (.b) []) (fun x e => z65_v n x.1) Spec.none))
theorem z102_σok (n : Nat) : SpecOk Tryz.prog (z102_σ n) := (inst_ok (fun x e y h => z91_c n e.1.1.1 e.1.1.2 e.1.2.1 y h) (inst_ok (fun x e y h => z65_c n x.1 y h) (SpecOk.none _)))
def z102_Φ (n : Nat) : Orc := with_ Tryz.prog (z102_σ n) [] n 0 hsL
def z102_v (n : Nat) (s0 : ByteArray) (b1 : Bool) (r2 : Rows) (j3 : Int) : Option (Bool × ((Bool × Rows) × Int × Unit) × Unit) :=
 DM.denFn tm (z102_Φ n) z102_lv n Tryz.f130 false [AV.pl 1000 0, aS s0] [[AV.sl b1 kdK r2 Right.no, aI j3]] (OSh.chk (OSh.plain (.b) [[.sl kdK, .i .i64]]))
theorem z102_e (n : Nat) (s0 : ByteArray) (b1 : Bool) (r2 : Rows) (j3 : Int) : z102_v n s0 b1 r2 j3 =
 obind (z91_v n b1 r2 j3) fun y4 =>
 bif y4.fst.snd.fst == s0 then
 bif y4.fst.fst == 5 then
 some (true, (((y4.snd.fst.fst.fst, y4.snd.fst.fst.snd), (y4.snd.fst.snd.fst, ())), ()))
 else bif y4.fst.fst == 1 then
 obind (z65_v n s0) fun y5 =>
 some (y5.fst, (((y4.snd.fst.fst.fst, y4.snd.fst.fst.snd), (y4.snd.fst.snd.fst, ())), ()))
 else some (false, (((y4.snd.fst.fst.fst, y4.snd.fst.fst.snd), (y4.snd.fst.snd.fst, ())), ()))
 else some (false, (((y4.snd.fst.fst.fst, y4.snd.fst.fst.snd), (y4.snd.fst.snd.fst, ())), ())) := by kernel_rfl
theorem z102_c (n : Nat) (s0 : ByteArray) (b1 : Bool) (r2 : Rows) (j3 : Int) (y : Bool × ((Bool × Rows) × Int × Unit) × Unit) (h : z102_v n s0 b1 r2 j3 = some y) : Contract Tryz.prog 130 [AV.pl 1000 0, aS s0] [[AV.sl b1 kdK r2 Right.no, aI j3]] (OSh.enc (OSh.plain (.b) [[.sl kdK, .i .i64]]) y) :=
 ac (OSh.plain (.b) [[.sl kdK, .i .i64]]) (z102_σok n) Tryz.func130 (by decide) h
def z99_lv : Live := []
def z99_σ (n : Nat) : Spec := (inst 130 [.pl 1000 0, .s] [[.sl kdK, .i .i64]] (OSh.plain (.b) [[.sl kdK, .i .i64]]) (fun x e => z102_v n x.2.1 e.1.1.1 e.1.1.2 e.1.2.1) Spec.none)
theorem z99_σok (n : Nat) : SpecOk Tryz.prog (z99_σ n) := (inst_ok (fun x e y h => z102_c n x.2.1 e.1.1.1 e.1.1.2 e.1.2.1 y h) (SpecOk.none _))
def z99_Φ (n : Nat) : Orc := with_ Tryz.prog (z99_σ n) [] n 0 hsL
def z99_v (n : Nat) (s0 : ByteArray) (b1 : Bool) (r2 : Rows) (j3 : Int) : Option (Bool × ((Bool × Rows) × Int × Unit) × Unit) :=
 DM.denFn tm (z99_Φ n) z99_lv n Tryz.f77 false [AV.pl 1000 0, aS s0] [[AV.sl b1 kdK r2 Right.no, aI j3]] (OSh.chk (OSh.plain (.b) [[.sl kdK, .i .i64]]))
theorem z99_e (n : Nat) (s0 : ByteArray) (b1 : Bool) (r2 : Rows) (j3 : Int) : z99_v n s0 b1 r2 j3 =
 obind (z102_v n s0 b1 r2 j3) fun y4 =>
 bif !y4.fst then
 some (false, (((y4.snd.fst.fst.fst, y4.snd.fst.fst.snd), (y4.snd.fst.snd.fst, ())), ()))
 else if 1 ≤ (↑(List.length y4.snd.fst.fst.snd) : Int) then
 if (↑(List.length y4.snd.fst.fst.snd) : Int) ≤ (↑(List.length y4.snd.fst.fst.snd) : Int) then
 some (true, (((y4.snd.fst.fst.fst, List.drop 1 (List.take (Int.toNat (↑(List.length y4.snd.fst.fst.snd) : Int)) y4.snd.fst.fst.snd)), (y4.snd.fst.snd.fst, ())), ()))
 else none
 else none := by kernel_rfl
theorem z99_c (n : Nat) (s0 : ByteArray) (b1 : Bool) (r2 : Rows) (j3 : Int) (y : Bool × ((Bool × Rows) × Int × Unit) × Unit) (h : z99_v n s0 b1 r2 j3 = some y) : Contract Tryz.prog 77 [AV.pl 1000 0, aS s0] [[AV.sl b1 kdK r2 Right.no, aI j3]] (OSh.enc (OSh.plain (.b) [[.sl kdK, .i .i64]]) y) :=
 ac (OSh.plain (.b) [[.sl kdK, .i .i64]]) (z99_σok n) Tryz.func77 (by decide) h
def z94_lv : Live := []
def z94_σ (n : Nat) : Spec := (inst 77 [.pl 1000 0, .s] [[.sl kdK, .i .i64]] (OSh.plain (.b) [[.sl kdK, .i .i64]]) (fun x e => z99_v n x.2.1 e.1.1.1 e.1.1.2 e.1.2.1) (inst 34 [.pl 1000 0, .i .i64] [[.sl kdK, .i .i64]] (OSh.pan (.junk) (.ifc 79 (.agg [.i .i64, .i .i64])) [[.sl kdK, .i .i64]]) (fun x e => z101_v n x.2.1 e.1.1.1 e.1.1.2 e.1.2.1) Spec.none))
theorem z94_σok (n : Nat) : SpecOk Tryz.prog (z94_σ n) := (inst_ok (fun x e y h => z99_c n x.2.1 e.1.1.1 e.1.1.2 e.1.2.1 y h) (inst_ok (fun x e y h => z101_c n x.2.1 e.1.1.1 e.1.1.2 e.1.2.1 y h) (SpecOk.none _)))
def z94_Φ (n : Nat) : Orc := with_ Tryz.prog (z94_σ n) [] n 0 hsL
def z94_v (n : Nat) (s0 : ByteArray) (b1 : Bool) (r2 : Rows) (j3 : Int) : Option (Bool × Unit × (Int × Int × Unit) × ((Bool × Rows) × Int × Unit) × Unit) :=
 DM.denFn tm (z94_Φ n) z94_lv n Tryz.f74 false [AV.pl 1000 0, aS s0] [[AV.sl b1 kdK r2 Right.no, aI j3]] (OSh.chk (OSh.pan (.tup []) (.ifc 79 (.agg [.i .i64, .i .i64])) [[.sl kdK, .i .i64]]))
theorem z94_e (n : Nat) (s0 : ByteArray) (b1 : Bool) (r2 : Rows) (j3 : Int) : z94_v n s0 b1 r2 j3 =
 obind (z99_v n s0 b1 r2 j3) fun y4 =>
 bif !y4.fst then
 obind (z101_v n 80 y4.snd.fst.fst.fst y4.snd.fst.fst.snd y4.snd.fst.snd.fst) fun y5 =>
 bif y5.fst then
 some (true, Sh.dflt (.tup []), (y5.snd.snd.fst.fst, (y5.snd.snd.fst.snd.fst, ())), (((y5.snd.snd.snd.fst.fst.fst, y5.snd.snd.snd.fst.fst.snd), (y5.snd.snd.snd.fst.snd.fst, ())), ()))
 else some (false, (), Sh.dflt (.ifc 79 (.agg [.i .i64, .i .i64])), (((y5.snd.snd.snd.fst.fst.fst, y5.snd.snd.snd.fst.fst.snd), (y5.snd.snd.snd.fst.snd.fst, ())), ()))
 else some (false, (), Sh.dflt (.ifc 79 (.agg [.i .i64, .i .i64])), (((y4.snd.fst.fst.fst, y4.snd.fst.fst.snd), (y4.snd.fst.snd.fst, ())), ())) := by kernel_rfl
theorem z94_c (n : Nat) (s0 : ByteArray) (b1 : Bool) (r2 : Rows) (j3 : Int) (y : Bool × Unit × (Int × Int × Unit) × ((Bool × Rows) × Int × Unit) × Unit) (h : z94_v n s0 b1 r2 j3 = some y) : Contract Tryz.prog 74 [AV.pl 1000 0, aS s0] [[AV.sl b1 kdK r2 Right.no, aI j3]] (OSh.enc (OSh.pan (.tup []) (.ifc 79 (.agg [.i .i64, .i .i64])) [[.sl kdK, .i .i64]]) y) :=
 ac (OSh.pan (.tup []) (.ifc 79 (.agg [.i .i64, .i .i64])) [[.sl kdK, .i .i64]]) (z94_σok n) Tryz.func74 (by decide) h
def z98_lv : Live := []
def z98_σ (n : Nat) : Spec := (inst 71 [.pl 1000 0] [[.sl kdK, .i .i64]] (OSh.plain (.agg [.i .i64, .s, .i .i64, .i .i64]) [[.sl kdK, .i .i64]]) (fun x e => z91_v n e.1.1.1 e.1.1.2 e.1.2.1) (inst 34 [.pl 1000 0, .i .i64] [[.sl kdK, .i .i64]] (OSh.pan (.junk) (.ifc 79 (.agg [.i .i64, .i .i64])) [[.sl kdK, .i .i64]]) (fun x e => z101_v n x.2.1 e.1.1.1 e.1.1.2 e.1.2.1) (inst 72 [.s] [] (OSh.plain (.b) []) (fun x e => z65_v n x.1) Spec.none)))
theorem z98_σok (n : Nat) : SpecOk Tryz.prog (z98_σ n) := (inst_ok (fun x e y h => z91_c n e.1.1.1 e.1.1.2 e.1.2.1 y h) (inst_ok (fun x e y h => z101_c n x.2.1 e.1.1.1 e.1.1.2 e.1.2.1 y h) (inst_ok (fun x e y h => z65_c n x.1 y h) (SpecOk.none _))))
def z98_Φ (n : Nat) : Orc := with_ Tryz.prog (z98_σ n) [] n 0 hsL
def z98_v (n : Nat) (b0 : Bool) (r1 : Rows) (j2 : Int) : Option (Bool × ByteArray × (Int × Int × Unit) × ((Bool × Rows) × Int × Unit) × Unit) :=
 DM.denFn tm (z98_Φ n) z98_lv n Tryz.f75 false [AV.pl 1000 0] [[AV.sl b0 kdK r1 Right.no, aI j2]] (OSh.chk (OSh.pan (.s) (.ifc 79 (.agg [.i .i64, .i .i64])) [[.sl kdK, .i .i64]]))
theorem z98_e (n : Nat) (b0 : Bool) (r1 : Rows) (j2 : Int) : z98_v n b0 r1 j2 =
 obind (z91_v n b0 r1 j2) fun y3 =>
 bif y3.fst.fst != 1 then
 obind (z101_v n 80 y3.snd.fst.fst.fst y3.snd.fst.fst.snd y3.snd.fst.snd.fst) fun y4 =>
 bif y4.fst then
 some (true, Sh.dflt (.s), (y4.snd.snd.fst.fst, (y4.snd.snd.fst.snd.fst, ())), (((y4.snd.snd.snd.fst.fst.fst, y4.snd.snd.snd.fst.fst.snd), (y4.snd.snd.snd.fst.snd.fst, ())), ()))
 else if 1 ≤ (↑(List.length y4.snd.snd.snd.fst.fst.snd) : Int) then
 if (↑(List.length y4.snd.snd.snd.fst.fst.snd) : Int) ≤ (↑(List.length y4.snd.snd.snd.fst.fst.snd) : Int) then
 some (false, y3.fst.snd.fst, Sh.dflt (.ifc 79 (.agg [.i .i64, .i .i64])), (((y4.snd.snd.snd.fst.fst.fst, List.drop 1 (List.take (Int.toNat (↑(List.length y4.snd.snd.snd.fst.fst.snd) : Int)) y4.snd.snd.snd.fst.fst.snd)), (y4.snd.snd.snd.fst.snd.fst, ())), ()))
 else none
 else none
 else obind (z65_v n y3.fst.snd.fst) fun y5 =>
 bif y5.fst then
 obind (z101_v n 80 y3.snd.fst.fst.fst y3.snd.fst.fst.snd y3.snd.fst.snd.fst) fun y6 =>
 bif y6.fst then
 some (true, Sh.dflt (.s), (y6.snd.snd.fst.fst, (y6.snd.snd.fst.snd.fst, ())), (((y6.snd.snd.snd.fst.fst.fst, y6.snd.snd.snd.fst.fst.snd), (y6.snd.snd.snd.fst.snd.fst, ())), ()))
 else if 1 ≤ (↑(List.length y6.snd.snd.snd.fst.fst.snd) : Int) then
 if (↑(List.length y6.snd.snd.snd.fst.fst.snd) : Int) ≤ (↑(List.length y6.snd.snd.snd.fst.fst.snd) : Int) then
 some (false, y3.fst.snd.fst, Sh.dflt (.ifc 79 (.agg [.i .i64, .i .i64])), (((y6.snd.snd.snd.fst.fst.fst, List.drop 1 (List.take (Int.toNat (↑(List.length y6.snd.snd.snd.fst.fst.snd) : Int)) y6.snd.snd.snd.fst.fst.snd)), (y6.snd.snd.snd.fst.snd.fst, ())), ()))
 else none
 else none
 else if 1 ≤ (↑(List.length y3.snd.fst.fst.snd) : Int) then
 if (↑(List.length y3.snd.fst.fst.snd) : Int) ≤ (↑(List.length y3.snd.fst.fst.snd) : Int) then
 some (false, y3.fst.snd.fst, Sh.dflt (.ifc 79 (.agg [.i .i64, .i .i64])), (((y3.snd.fst.fst.fst, List.drop 1 (List.take (Int.toNat (↑(List.length y3.snd.fst.fst.snd) : Int)) y3.snd.fst.fst.snd)), (y3.snd.fst.snd.fst, ())), ()))
 else none
 else none := by kernel_rfl
theorem z98_c (n : Nat) (b0 : Bool) (r1 : Rows) (j2 : Int) (y : Bool × ByteArray × (Int × Int × Unit) × ((Bool × Rows) × Int × Unit) × Unit) (h : z98_v n b0 r1 j2 = some y) : Contract Tryz.prog 75 [AV.pl 1000 0] [[AV.sl b0 kdK r1 Right.no, aI j2]] (OSh.enc (OSh.pan (.s) (.ifc 79 (.agg [.i .i64, .i .i64])) [[.sl kdK, .i .i64]]) y) :=
 ac (OSh.pan (.s) (.ifc 79 (.agg [.i .i64, .i .i64])) [[.sl kdK, .i .i64]]) (z98_σok n) Tryz.func75 (by decide) h
def z100_lv : Live := [(5, [0, 3], [1000, 1001, 1002, 1003])]
def z100_σ (n : Nat) : Spec := (inst 74 [.pl 1000 0, .s] [[.sl kdK, .i .i64]] (OSh.pan (.tup []) (.ifc 79 (.agg [.i .i64, .i .i64])) [[.sl kdK, .i .i64]]) (fun x e => z94_v n x.2.1 e.1.1.1 e.1.1.2 e.1.2.1) (inst 77 [.pl 1000 0, .s] [[.sl kdK, .i .i64]] (OSh.plain (.b) [[.sl kdK, .i .i64]]) (fun x e => z99_v n x.2.1 e.1.1.1 e.1.1.2 e.1.2.1) (inst 33 [.pl 1000 0] [[.sl kdK, .i .i64]] (OSh.plain (.b) [[.sl kdK, .i .i64]]) (fun x e => z71_v n e.1.1.1 e.1.1.2 e.1.2.1) (inst 73 [.pl 1000 0] [[.sl kdK, .i .i64]] (OSh.pan (.agg [.s, .b, .i .i64, .s]) (.ifc 79 (.agg [.i .i64, .i .i64])) [[.sl kdK, .i .i64]]) (fun x e => z92_v n e.1.1.1 e.1.1.2 e.1.2.1) (inst 34 [.pl 1000 0, .i .i64] [[.sl kdK, .i .i64]] (OSh.pan (.junk) (.ifc 79 (.agg [.i .i64, .i .i64])) [[.sl kdK, .i .i64]]) (fun x e => z101_v n x.2.1 e.1.1.1 e.1.1.2 e.1.2.1) Spec.none)))))
theorem z100_σok (n : Nat) : SpecOk Tryz.prog (z100_σ n) := (inst_ok (fun x e y h => z94_c n x.2.1 e.1.1.1 e.1.1.2 e.1.2.1 y h) (inst_ok (fun x e y h => z99_c n x.2.1 e.1.1.1 e.1.1.2 e.1.2.1 y h) (inst_ok (fun x e y h => z71_c n e.1.1.1 e.1.1.2 e.1.2.1 y h) (inst_ok (fun x e y h => z92_c n e.1.1.1 e.1.1.2 e.1.2.1 y h) (inst_ok (fun x e y h => z101_c n x.2.1 e.1.1.1 e.1.1.2 e.1.2.1 y h) (SpecOk.none _))))))
def z100_Φ (n : Nat) : Orc := with_ Tryz.prog (z100_σ n) [] n 0 hsL
def z100_v (n : Nat) (b0 : Bool) (r1 : Rows) (j2 : Int) : Option (Bool × (Bool × Rows) × (Int × Int × Unit) × ((Bool × Rows) × Int × Unit) × Unit) :=
 DM.denFn tm (z100_Φ n) z100_lv n Tryz.f76 true [AV.pl 1000 0] [[AV.sl b0 kdK r1 Right.no, aI j2]] (OSh.chk (OSh.pan (.slt kdT 0) (.ifc 79 (.agg [.i .i64, .i .i64])) [[.sl kdK, .i .i64]]))
def z100_l5 (n : Nat) (b0 : Bool) (r1 : Rows) (j2 : Int) (i0 : Nat) (b5 : Bool) (r6 : List (List DV)) (j7 : Int) (b15 : Bool) (r16 : List (List DV)) : Option (Bool × (Bool × Rows) × (Int × Int × Unit) × ((Bool × Rows) × Int × Unit) × Unit) :=
 DM.loopFn tm (z100_Φ n) z100_lv n Tryz.f76 true [[AV.sl b0 kdK r1 Right.no, aI j2]] (OSh.chk (OSh.pan (.slt kdT 0) (.ifc 79 (.agg [.i .i64, .i .i64])) [[.sl kdK, .i .i64]])) 5 [] i0 (St.mk ([AV.pl 1000 0, Jk, Jk, AV.sl b15 kdT r16 (Right.tok 3)] ++ jk 23) [(1000, [AV.sl b5 kdK r6 Right.no, aI j7])])
theorem z100_s5 (n : Nat) (b0 : Bool) (r1 : Rows) (j2 : Int) (i0 : Nat) (b5 : Bool) (r6 : List (List DV)) (j7 : Int) (b15 : Bool) (r16 : List (List DV)) : z100_l5 n b0 r1 j2 (i0 + 1) b5 r6 j7 b15 r16 =
 obind (z71_v n b5 r6 j7) fun y17 =>
 bif y17.fst then
 bif (↑(List.length r16) : Int) == 4 then
 obind (z101_v n 81 y17.snd.fst.fst.fst y17.snd.fst.fst.snd y17.snd.fst.snd.fst) fun y18 =>
 bif y18.fst then
 some (true, Sh.dflt (.slt kdT 0), (y18.snd.snd.fst.fst, (y18.snd.snd.fst.snd.fst, ())), (((y18.snd.snd.snd.fst.fst.fst, y18.snd.snd.snd.fst.fst.snd), (y18.snd.snd.snd.fst.snd.fst, ())), ()))
 else obind (z92_v n y18.snd.snd.snd.fst.fst.fst y18.snd.snd.snd.fst.fst.snd y18.snd.snd.snd.fst.snd.fst) fun y19 =>
 bif y19.fst then
 some (true, Sh.dflt (.slt kdT 0), (y19.snd.snd.fst.fst, (y19.snd.snd.fst.snd.fst, ())), (((y19.snd.snd.snd.fst.fst.fst, y19.snd.snd.snd.fst.fst.snd), (y19.snd.snd.snd.fst.snd.fst, ())), ()))
 else if (List.length r16 + List.length [[DV.val (Value.string y19.snd.fst.fst), DV.val (Value.bool y19.snd.fst.snd.fst), DV.val (Value.int .i64 y19.snd.fst.snd.snd.fst), DV.val (Value.string y19.snd.fst.snd.snd.snd.fst)]]) * 48 ≤ 140737488355328 then
 obind (z99_v n (ByteArray.mk #[41]) y19.snd.snd.snd.fst.fst.fst y19.snd.snd.snd.fst.fst.snd y19.snd.snd.snd.fst.snd.fst) fun y20 =>
 bif y20.fst then
 some (false, (b15 && List.isEmpty [[DV.val (Value.string y19.snd.fst.fst), DV.val (Value.bool y19.snd.fst.snd.fst), DV.val (Value.int .i64 y19.snd.fst.snd.snd.fst), DV.val (Value.string y19.snd.fst.snd.snd.snd.fst)]], appX r16 [[DV.val (Value.string y19.snd.fst.fst), DV.val (Value.bool y19.snd.fst.snd.fst), DV.val (Value.int .i64 y19.snd.fst.snd.snd.fst), DV.val (Value.string y19.snd.fst.snd.snd.snd.fst)]]), Sh.dflt (.ifc 79 (.agg [.i .i64, .i .i64])), (((y20.snd.fst.fst.fst, y20.snd.fst.fst.snd), (y20.snd.fst.snd.fst, ())), ()))
 else obind (z94_v n (ByteArray.mk #[44]) y20.snd.fst.fst.fst y20.snd.fst.fst.snd y20.snd.fst.snd.fst) fun y21 =>
 bif y21.fst then
 some (true, Sh.dflt (.slt kdT 0), (y21.snd.snd.fst.fst, (y21.snd.snd.fst.snd.fst, ())), (((y21.snd.snd.snd.fst.fst.fst, y21.snd.snd.snd.fst.fst.snd), (y21.snd.snd.snd.fst.snd.fst, ())), ()))
 else z100_l5 n b0 r1 j2 i0 y21.snd.snd.snd.fst.fst.fst y21.snd.snd.snd.fst.fst.snd y21.snd.snd.snd.fst.snd.fst (b15 && List.isEmpty [[DV.val (Value.string y19.snd.fst.fst), DV.val (Value.bool y19.snd.fst.snd.fst), DV.val (Value.int .i64 y19.snd.fst.snd.snd.fst), DV.val (Value.string y19.snd.fst.snd.snd.snd.fst)]]) (appX r16 [[DV.val (Value.string y19.snd.fst.fst), DV.val (Value.bool y19.snd.fst.snd.fst), DV.val (Value.int .i64 y19.snd.fst.snd.snd.fst), DV.val (Value.string y19.snd.fst.snd.snd.snd.fst)]])
 else none
 else obind (z92_v n y17.snd.fst.fst.fst y17.snd.fst.fst.snd y17.snd.fst.snd.fst) fun y22 =>
 bif y22.fst then
 some (true, Sh.dflt (.slt kdT 0), (y22.snd.snd.fst.fst, (y22.snd.snd.fst.snd.fst, ())), (((y22.snd.snd.snd.fst.fst.fst, y22.snd.snd.snd.fst.fst.snd), (y22.snd.snd.snd.fst.snd.fst, ())), ()))
 else if (List.length r16 + List.length [[DV.val (Value.string y22.snd.fst.fst), DV.val (Value.bool y22.snd.fst.snd.fst), DV.val (Value.int .i64 y22.snd.fst.snd.snd.fst), DV.val (Value.string y22.snd.fst.snd.snd.snd.fst)]]) * 48 ≤ 140737488355328 then
 obind (z99_v n (ByteArray.mk #[41]) y22.snd.snd.snd.fst.fst.fst y22.snd.snd.snd.fst.fst.snd y22.snd.snd.snd.fst.snd.fst) fun y23 =>
 bif y23.fst then
 some (false, (b15 && List.isEmpty [[DV.val (Value.string y22.snd.fst.fst), DV.val (Value.bool y22.snd.fst.snd.fst), DV.val (Value.int .i64 y22.snd.fst.snd.snd.fst), DV.val (Value.string y22.snd.fst.snd.snd.snd.fst)]], appX r16 [[DV.val (Value.string y22.snd.fst.fst), DV.val (Value.bool y22.snd.fst.snd.fst), DV.val (Value.int .i64 y22.snd.fst.snd.snd.fst), DV.val (Value.string y22.snd.fst.snd.snd.snd.fst)]]), Sh.dflt (.ifc 79 (.agg [.i .i64, .i .i64])), (((y23.snd.fst.fst.fst, y23.snd.fst.fst.snd), (y23.snd.fst.snd.fst, ())), ()))
 else obind (z94_v n (ByteArray.mk #[44]) y23.snd.fst.fst.fst y23.snd.fst.fst.snd y23.snd.fst.snd.fst) fun y24 =>
 bif y24.fst then
 some (true, Sh.dflt (.slt kdT 0), (y24.snd.snd.fst.fst, (y24.snd.snd.fst.snd.fst, ())), (((y24.snd.snd.snd.fst.fst.fst, y24.snd.snd.snd.fst.fst.snd), (y24.snd.snd.snd.fst.snd.fst, ())), ()))
 else z100_l5 n b0 r1 j2 i0 y24.snd.snd.snd.fst.fst.fst y24.snd.snd.snd.fst.fst.snd y24.snd.snd.snd.fst.snd.fst (b15 && List.isEmpty [[DV.val (Value.string y22.snd.fst.fst), DV.val (Value.bool y22.snd.fst.snd.fst), DV.val (Value.int .i64 y22.snd.fst.snd.snd.fst), DV.val (Value.string y22.snd.fst.snd.snd.snd.fst)]]) (appX r16 [[DV.val (Value.string y22.snd.fst.fst), DV.val (Value.bool y22.snd.fst.snd.fst), DV.val (Value.int .i64 y22.snd.fst.snd.snd.fst), DV.val (Value.string y22.snd.fst.snd.snd.snd.fst)]])
 else none
 else obind (z92_v n y17.snd.fst.fst.fst y17.snd.fst.fst.snd y17.snd.fst.snd.fst) fun y25 =>
 bif y25.fst then
 some (true, Sh.dflt (.slt kdT 0), (y25.snd.snd.fst.fst, (y25.snd.snd.fst.snd.fst, ())), (((y25.snd.snd.snd.fst.fst.fst, y25.snd.snd.snd.fst.fst.snd), (y25.snd.snd.snd.fst.snd.fst, ())), ()))
 else if (List.length r16 + List.length [[DV.val (Value.string y25.snd.fst.fst), DV.val (Value.bool y25.snd.fst.snd.fst), DV.val (Value.int .i64 y25.snd.fst.snd.snd.fst), DV.val (Value.string y25.snd.fst.snd.snd.snd.fst)]]) * 48 ≤ 140737488355328 then
 obind (z99_v n (ByteArray.mk #[41]) y25.snd.snd.snd.fst.fst.fst y25.snd.snd.snd.fst.fst.snd y25.snd.snd.snd.fst.snd.fst) fun y26 =>
 bif y26.fst then
 some (false, (b15 && List.isEmpty [[DV.val (Value.string y25.snd.fst.fst), DV.val (Value.bool y25.snd.fst.snd.fst), DV.val (Value.int .i64 y25.snd.fst.snd.snd.fst), DV.val (Value.string y25.snd.fst.snd.snd.snd.fst)]], appX r16 [[DV.val (Value.string y25.snd.fst.fst), DV.val (Value.bool y25.snd.fst.snd.fst), DV.val (Value.int .i64 y25.snd.fst.snd.snd.fst), DV.val (Value.string y25.snd.fst.snd.snd.snd.fst)]]), Sh.dflt (.ifc 79 (.agg [.i .i64, .i .i64])), (((y26.snd.fst.fst.fst, y26.snd.fst.fst.snd), (y26.snd.fst.snd.fst, ())), ()))
 else obind (z94_v n (ByteArray.mk #[44]) y26.snd.fst.fst.fst y26.snd.fst.fst.snd y26.snd.fst.snd.fst) fun y27 =>
 bif y27.fst then
 some (true, Sh.dflt (.slt kdT 0), (y27.snd.snd.fst.fst, (y27.snd.snd.fst.snd.fst, ())), (((y27.snd.snd.snd.fst.fst.fst, y27.snd.snd.snd.fst.fst.snd), (y27.snd.snd.snd.fst.snd.fst, ())), ()))
 else z100_l5 n b0 r1 j2 i0 y27.snd.snd.snd.fst.fst.fst y27.snd.snd.snd.fst.fst.snd y27.snd.snd.snd.fst.snd.fst (b15 && List.isEmpty [[DV.val (Value.string y25.snd.fst.fst), DV.val (Value.bool y25.snd.fst.snd.fst), DV.val (Value.int .i64 y25.snd.fst.snd.snd.fst), DV.val (Value.string y25.snd.fst.snd.snd.snd.fst)]]) (appX r16 [[DV.val (Value.string y25.snd.fst.fst), DV.val (Value.bool y25.snd.fst.snd.fst), DV.val (Value.int .i64 y25.snd.fst.snd.snd.fst), DV.val (Value.string y25.snd.fst.snd.snd.snd.fst)]])
 else none := by kernel_rfl
theorem z100_e (n : Nat) (b0 : Bool) (r1 : Rows) (j2 : Int) : z100_v n b0 r1 j2 =
 obind (z94_v n (ByteArray.mk #[40]) b0 r1 j2) fun y3 =>
 bif y3.fst then
 some (true, Sh.dflt (.slt kdT 0), (y3.snd.snd.fst.fst, (y3.snd.snd.fst.snd.fst, ())), (((y3.snd.snd.snd.fst.fst.fst, y3.snd.snd.snd.fst.fst.snd), (y3.snd.snd.snd.fst.snd.fst, ())), ()))
 else obind (z99_v n (ByteArray.mk #[41]) y3.snd.snd.snd.fst.fst.fst y3.snd.snd.snd.fst.fst.snd y3.snd.snd.snd.fst.snd.fst) fun y4 =>
 bif y4.fst then
 some (false, (true, []), Sh.dflt (.ifc 79 (.agg [.i .i64, .i .i64])), (((y4.snd.fst.fst.fst, y4.snd.fst.fst.snd), (y4.snd.fst.snd.fst, ())), ()))
 else z100_l5 n b0 r1 j2 n y4.snd.fst.fst.fst y4.snd.fst.fst.snd y4.snd.fst.snd.fst true [] := by kernel_rfl
theorem z100_c (n : Nat) (b0 : Bool) (r1 : Rows) (j2 : Int) (y : Bool × (Bool × Rows) × (Int × Int × Unit) × ((Bool × Rows) × Int × Unit) × Unit) (h : z100_v n b0 r1 j2 = some y) : Contract Tryz.prog 76 [AV.pl 1000 0] [[AV.sl b0 kdK r1 Right.no, aI j2]] (OSh.enc (OSh.pan (.slt kdT 0) (.ifc 79 (.agg [.i .i64, .i .i64])) [[.sl kdK, .i .i64]]) y) :=
 ac (OSh.pan (.slt kdT 0) (.ifc 79 (.agg [.i .i64, .i .i64])) [[.sl kdK, .i .i64]]) (z100_σok n) Tryz.func76 (by decide) h
def z57_lv : Live := []
def z57_σ (n : Nat) : Spec := (inst 71 [.pl 1000 0] [[.sl kdK, .i .i64]] (OSh.plain (.agg [.i .i64, .s, .i .i64, .i .i64]) [[.sl kdK, .i .i64]]) (fun x e => z91_v n e.1.1.1 e.1.1.2 e.1.2.1) (inst 73 [.pl 1000 0] [[.sl kdK, .i .i64]] (OSh.pan (.agg [.s, .b, .i .i64, .s]) (.ifc 79 (.agg [.i .i64, .i .i64])) [[.sl kdK, .i .i64]]) (fun x e => z92_v n e.1.1.1 e.1.1.2 e.1.2.1) (inst 74 [.pl 1000 0, .s] [[.sl kdK, .i .i64]] (OSh.pan (.tup []) (.ifc 79 (.agg [.i .i64, .i .i64])) [[.sl kdK, .i .i64]]) (fun x e => z94_v n x.2.1 e.1.1.1 e.1.1.2 e.1.2.1) (inst 75 [.pl 1000 0] [[.sl kdK, .i .i64]] (OSh.pan (.s) (.ifc 79 (.agg [.i .i64, .i .i64])) [[.sl kdK, .i .i64]]) (fun x e => z98_v n e.1.1.1 e.1.1.2 e.1.2.1) (inst 76 [.pl 1000 0] [[.sl kdK, .i .i64]] (OSh.pan (.slt kdT 0) (.ifc 79 (.agg [.i .i64, .i .i64])) [[.sl kdK, .i .i64]]) (fun x e => z100_v n e.1.1.1 e.1.1.2 e.1.2.1) (inst 77 [.pl 1000 0, .s] [[.sl kdK, .i .i64]] (OSh.plain (.b) [[.sl kdK, .i .i64]]) (fun x e => z99_v n x.2.1 e.1.1.1 e.1.1.2 e.1.2.1) Spec.none))))))
theorem z57_σok (n : Nat) : SpecOk Tryz.prog (z57_σ n) := (inst_ok (fun x e y h => z91_c n e.1.1.1 e.1.1.2 e.1.2.1 y h) (inst_ok (fun x e y h => z92_c n e.1.1.1 e.1.1.2 e.1.2.1 y h) (inst_ok (fun x e y h => z94_c n x.2.1 e.1.1.1 e.1.1.2 e.1.2.1 y h) (inst_ok (fun x e y h => z98_c n e.1.1.1 e.1.1.2 e.1.2.1 y h) (inst_ok (fun x e y h => z100_c n e.1.1.1 e.1.1.2 e.1.2.1 y h) (inst_ok (fun x e y h => z99_c n x.2.1 e.1.1.1 e.1.1.2 e.1.2.1 y h) (SpecOk.none _)))))))
def z57_Φ (n : Nat) : Orc := with_ Tryz.prog (z57_σ n) [] n 0 hsL
def z57_v (n : Nat) (b0 : Bool) (r1 : Rows) (j2 : Int) : Option (Bool × (ByteArray × Bool × Int × ByteArray × ByteArray × (Bool × Rows) × ByteArray × Bool × Int × ByteArray × Unit) × (Int × Int × Unit) × ((Bool × Rows) × Int × Unit) × Unit) :=
 DM.denFn tm (z57_Φ n) z57_lv n Tryz.f78 false [AV.pl 1000 0] [[AV.sl b0 kdK r1 Right.no, aI j2]] (OSh.chk (OSh.pan (.agg [.s, .b, .i .i64, .s, .s, .sl kdT, .s, .b, .i .i64, .s]) (.ifc 79 (.agg [.i .i64, .i .i64])) [[.sl kdK, .i .i64]]))
theorem z57_e (n : Nat) (b0 : Bool) (r1 : Rows) (j2 : Int) : z57_v n b0 r1 j2 =
 obind (z91_v n b0 r1 j2) fun y3 =>
 bif decide ((↑(List.length y3.snd.fst.fst.snd) : Int) > 1) then
 if 1 < (↑(List.length y3.snd.fst.fst.snd) : Int) then
 bif Row.I (List.getD y3.snd.fst.fst.snd 1 []) 0 == 1 then
 if 1 < (↑(List.length y3.snd.fst.fst.snd) : Int) then
 bif Row.S (List.getD y3.snd.fst.fst.snd 1 []) 1 == ByteArray.mk #[115, 97, 121, 115] then
 obind (z92_v n y3.snd.fst.fst.fst y3.snd.fst.fst.snd y3.snd.fst.snd.fst) fun y4 =>
 bif y4.fst then
 some (true, Sh.dflt (.agg [.s, .b, .i .i64, .s, .s, .sl kdT, .s, .b, .i .i64, .s]), (y4.snd.snd.fst.fst, (y4.snd.snd.fst.snd.fst, ())), (((y4.snd.snd.snd.fst.fst.fst, y4.snd.snd.snd.fst.fst.snd), (y4.snd.snd.snd.fst.snd.fst, ())), ()))
 else obind (z94_v n (ByteArray.mk #[115, 97, 121, 115]) y4.snd.snd.snd.fst.fst.fst y4.snd.snd.snd.fst.fst.snd y4.snd.snd.snd.fst.snd.fst) fun y5 =>
 bif y5.fst then
 some (true, Sh.dflt (.agg [.s, .b, .i .i64, .s, .s, .sl kdT, .s, .b, .i .i64, .s]), (y5.snd.snd.fst.fst, (y5.snd.snd.fst.snd.fst, ())), (((y5.snd.snd.snd.fst.fst.fst, y5.snd.snd.snd.fst.fst.snd), (y5.snd.snd.snd.fst.snd.fst, ())), ()))
 else obind (z98_v n y5.snd.snd.snd.fst.fst.fst y5.snd.snd.snd.fst.fst.snd y5.snd.snd.snd.fst.snd.fst) fun y6 =>
 bif y6.fst then
 some (true, Sh.dflt (.agg [.s, .b, .i .i64, .s, .s, .sl kdT, .s, .b, .i .i64, .s]), (y6.snd.snd.fst.fst, (y6.snd.snd.fst.snd.fst, ())), (((y6.snd.snd.snd.fst.fst.fst, y6.snd.snd.snd.fst.fst.snd), (y6.snd.snd.snd.fst.snd.fst, ())), ()))
 else obind (z100_v n y6.snd.snd.snd.fst.fst.fst y6.snd.snd.snd.fst.fst.snd y6.snd.snd.snd.fst.snd.fst) fun y7 =>
 bif y7.fst then
 some (true, Sh.dflt (.agg [.s, .b, .i .i64, .s, .s, .sl kdT, .s, .b, .i .i64, .s]), (y7.snd.snd.fst.fst, (y7.snd.snd.fst.snd.fst, ())), (((y7.snd.snd.snd.fst.fst.fst, y7.snd.snd.snd.fst.fst.snd), (y7.snd.snd.snd.fst.snd.fst, ())), ()))
 else obind (z99_v n (ByteArray.mk #[97, 116]) y7.snd.snd.snd.fst.fst.fst y7.snd.snd.snd.fst.fst.snd y7.snd.snd.snd.fst.snd.fst) fun y8 =>
 bif y8.fst then
 obind (z92_v n y8.snd.fst.fst.fst y8.snd.fst.fst.snd y8.snd.fst.snd.fst) fun y9 =>
 bif y9.fst then
 some (true, Sh.dflt (.agg [.s, .b, .i .i64, .s, .s, .sl kdT, .s, .b, .i .i64, .s]), (y9.snd.snd.fst.fst, (y9.snd.snd.fst.snd.fst, ())), (((y9.snd.snd.snd.fst.fst.fst, y9.snd.snd.snd.fst.fst.snd), (y9.snd.snd.snd.fst.snd.fst, ())), ()))
 else some (false, (y4.snd.fst.fst, (y4.snd.fst.snd.fst, (y4.snd.fst.snd.snd.fst, (y4.snd.fst.snd.snd.snd.fst, (y6.snd.fst, ((y7.snd.fst.fst, y7.snd.fst.snd), (y9.snd.fst.fst, (y9.snd.fst.snd.fst, (y9.snd.fst.snd.snd.fst, (y9.snd.fst.snd.snd.snd.fst, ())))))))))), Sh.dflt (.ifc 79 (.agg [.i .i64, .i .i64])), (((y9.snd.snd.snd.fst.fst.fst, y9.snd.snd.snd.fst.fst.snd), (y9.snd.snd.snd.fst.snd.fst, ())), ()))
 else some (false, (y4.snd.fst.fst, (y4.snd.fst.snd.fst, (y4.snd.fst.snd.snd.fst, (y4.snd.fst.snd.snd.snd.fst, (y6.snd.fst, ((y7.snd.fst.fst, y7.snd.fst.snd), (ByteArray.mk #[], (false, (0, (ByteArray.mk #[], ())))))))))), Sh.dflt (.ifc 79 (.agg [.i .i64, .i .i64])), (((y8.snd.fst.fst.fst, y8.snd.fst.fst.snd), (y8.snd.fst.snd.fst, ())), ()))
 else bif y3.fst.fst != 1 then
 obind (z92_v n y3.snd.fst.fst.fst y3.snd.fst.fst.snd y3.snd.fst.snd.fst) fun y10 =>
 bif y10.fst then
 some (true, Sh.dflt (.agg [.s, .b, .i .i64, .s, .s, .sl kdT, .s, .b, .i .i64, .s]), (y10.snd.snd.fst.fst, (y10.snd.snd.fst.snd.fst, ())), (((y10.snd.snd.snd.fst.fst.fst, y10.snd.snd.snd.fst.fst.snd), (y10.snd.snd.snd.fst.snd.fst, ())), ()))
 else obind (z94_v n (ByteArray.mk #[115, 97, 121, 115]) y10.snd.snd.snd.fst.fst.fst y10.snd.snd.snd.fst.fst.snd y10.snd.snd.snd.fst.snd.fst) fun y11 =>
 bif y11.fst then
 some (true, Sh.dflt (.agg [.s, .b, .i .i64, .s, .s, .sl kdT, .s, .b, .i .i64, .s]), (y11.snd.snd.fst.fst, (y11.snd.snd.fst.snd.fst, ())), (((y11.snd.snd.snd.fst.fst.fst, y11.snd.snd.snd.fst.fst.snd), (y11.snd.snd.snd.fst.snd.fst, ())), ()))
 else obind (z98_v n y11.snd.snd.snd.fst.fst.fst y11.snd.snd.snd.fst.fst.snd y11.snd.snd.snd.fst.snd.fst) fun y12 =>
 bif y12.fst then
 some (true, Sh.dflt (.agg [.s, .b, .i .i64, .s, .s, .sl kdT, .s, .b, .i .i64, .s]), (y12.snd.snd.fst.fst, (y12.snd.snd.fst.snd.fst, ())), (((y12.snd.snd.snd.fst.fst.fst, y12.snd.snd.snd.fst.fst.snd), (y12.snd.snd.snd.fst.snd.fst, ())), ()))
 else obind (z100_v n y12.snd.snd.snd.fst.fst.fst y12.snd.snd.snd.fst.fst.snd y12.snd.snd.snd.fst.snd.fst) fun y13 =>
 bif y13.fst then
 some (true, Sh.dflt (.agg [.s, .b, .i .i64, .s, .s, .sl kdT, .s, .b, .i .i64, .s]), (y13.snd.snd.fst.fst, (y13.snd.snd.fst.snd.fst, ())), (((y13.snd.snd.snd.fst.fst.fst, y13.snd.snd.snd.fst.fst.snd), (y13.snd.snd.snd.fst.snd.fst, ())), ()))
 else obind (z99_v n (ByteArray.mk #[97, 116]) y13.snd.snd.snd.fst.fst.fst y13.snd.snd.snd.fst.fst.snd y13.snd.snd.snd.fst.snd.fst) fun y14 =>
 bif y14.fst then
 obind (z92_v n y14.snd.fst.fst.fst y14.snd.fst.fst.snd y14.snd.fst.snd.fst) fun y15 =>
 bif y15.fst then
 some (true, Sh.dflt (.agg [.s, .b, .i .i64, .s, .s, .sl kdT, .s, .b, .i .i64, .s]), (y15.snd.snd.fst.fst, (y15.snd.snd.fst.snd.fst, ())), (((y15.snd.snd.snd.fst.fst.fst, y15.snd.snd.snd.fst.fst.snd), (y15.snd.snd.snd.fst.snd.fst, ())), ()))
 else some (false, (y10.snd.fst.fst, (y10.snd.fst.snd.fst, (y10.snd.fst.snd.snd.fst, (y10.snd.fst.snd.snd.snd.fst, (y12.snd.fst, ((y13.snd.fst.fst, y13.snd.fst.snd), (y15.snd.fst.fst, (y15.snd.fst.snd.fst, (y15.snd.fst.snd.snd.fst, (y15.snd.fst.snd.snd.snd.fst, ())))))))))), Sh.dflt (.ifc 79 (.agg [.i .i64, .i .i64])), (((y15.snd.snd.snd.fst.fst.fst, y15.snd.snd.snd.fst.fst.snd), (y15.snd.snd.snd.fst.snd.fst, ())), ()))
 else some (false, (y10.snd.fst.fst, (y10.snd.fst.snd.fst, (y10.snd.fst.snd.snd.fst, (y10.snd.fst.snd.snd.snd.fst, (y12.snd.fst, ((y13.snd.fst.fst, y13.snd.fst.snd), (ByteArray.mk #[], (false, (0, (ByteArray.mk #[], ())))))))))), Sh.dflt (.ifc 79 (.agg [.i .i64, .i .i64])), (((y14.snd.fst.fst.fst, y14.snd.fst.fst.snd), (y14.snd.fst.snd.fst, ())), ()))
 else obind (z98_v n y3.snd.fst.fst.fst y3.snd.fst.fst.snd y3.snd.fst.snd.fst) fun y16 =>
 bif y16.fst then
 some (true, Sh.dflt (.agg [.s, .b, .i .i64, .s, .s, .sl kdT, .s, .b, .i .i64, .s]), (y16.snd.snd.fst.fst, (y16.snd.snd.fst.snd.fst, ())), (((y16.snd.snd.snd.fst.fst.fst, y16.snd.snd.snd.fst.fst.snd), (y16.snd.snd.snd.fst.snd.fst, ())), ()))
 else obind (z100_v n y16.snd.snd.snd.fst.fst.fst y16.snd.snd.snd.fst.fst.snd y16.snd.snd.snd.fst.snd.fst) fun y17 =>
 bif y17.fst then
 some (true, Sh.dflt (.agg [.s, .b, .i .i64, .s, .s, .sl kdT, .s, .b, .i .i64, .s]), (y17.snd.snd.fst.fst, (y17.snd.snd.fst.snd.fst, ())), (((y17.snd.snd.snd.fst.fst.fst, y17.snd.snd.snd.fst.fst.snd), (y17.snd.snd.snd.fst.snd.fst, ())), ()))
 else obind (z99_v n (ByteArray.mk #[97, 116]) y17.snd.snd.snd.fst.fst.fst y17.snd.snd.snd.fst.fst.snd y17.snd.snd.snd.fst.snd.fst) fun y18 =>
 bif y18.fst then
 obind (z92_v n y18.snd.fst.fst.fst y18.snd.fst.fst.snd y18.snd.fst.snd.fst) fun y19 =>
 bif y19.fst then
 some (true, Sh.dflt (.agg [.s, .b, .i .i64, .s, .s, .sl kdT, .s, .b, .i .i64, .s]), (y19.snd.snd.fst.fst, (y19.snd.snd.fst.snd.fst, ())), (((y19.snd.snd.snd.fst.fst.fst, y19.snd.snd.snd.fst.fst.snd), (y19.snd.snd.snd.fst.snd.fst, ())), ()))
 else some (false, (ByteArray.mk #[], (false, (0, (ByteArray.mk #[], (y16.snd.fst, ((y17.snd.fst.fst, y17.snd.fst.snd), (y19.snd.fst.fst, (y19.snd.fst.snd.fst, (y19.snd.fst.snd.snd.fst, (y19.snd.fst.snd.snd.snd.fst, ())))))))))), Sh.dflt (.ifc 79 (.agg [.i .i64, .i .i64])), (((y19.snd.snd.snd.fst.fst.fst, y19.snd.snd.snd.fst.fst.snd), (y19.snd.snd.snd.fst.snd.fst, ())), ()))
 else some (false, (ByteArray.mk #[], (false, (0, (ByteArray.mk #[], (y16.snd.fst, ((y17.snd.fst.fst, y17.snd.fst.snd), (ByteArray.mk #[], (false, (0, (ByteArray.mk #[], ())))))))))), Sh.dflt (.ifc 79 (.agg [.i .i64, .i .i64])), (((y18.snd.fst.fst.fst, y18.snd.fst.fst.snd), (y18.snd.fst.snd.fst, ())), ()))
 else none
 else bif y3.fst.fst != 1 then
 obind (z92_v n y3.snd.fst.fst.fst y3.snd.fst.fst.snd y3.snd.fst.snd.fst) fun y20 =>
 bif y20.fst then
 some (true, Sh.dflt (.agg [.s, .b, .i .i64, .s, .s, .sl kdT, .s, .b, .i .i64, .s]), (y20.snd.snd.fst.fst, (y20.snd.snd.fst.snd.fst, ())), (((y20.snd.snd.snd.fst.fst.fst, y20.snd.snd.snd.fst.fst.snd), (y20.snd.snd.snd.fst.snd.fst, ())), ()))
 else obind (z94_v n (ByteArray.mk #[115, 97, 121, 115]) y20.snd.snd.snd.fst.fst.fst y20.snd.snd.snd.fst.fst.snd y20.snd.snd.snd.fst.snd.fst) fun y21 =>
 bif y21.fst then
 some (true, Sh.dflt (.agg [.s, .b, .i .i64, .s, .s, .sl kdT, .s, .b, .i .i64, .s]), (y21.snd.snd.fst.fst, (y21.snd.snd.fst.snd.fst, ())), (((y21.snd.snd.snd.fst.fst.fst, y21.snd.snd.snd.fst.fst.snd), (y21.snd.snd.snd.fst.snd.fst, ())), ()))
 else obind (z98_v n y21.snd.snd.snd.fst.fst.fst y21.snd.snd.snd.fst.fst.snd y21.snd.snd.snd.fst.snd.fst) fun y22 =>
 bif y22.fst then
 some (true, Sh.dflt (.agg [.s, .b, .i .i64, .s, .s, .sl kdT, .s, .b, .i .i64, .s]), (y22.snd.snd.fst.fst, (y22.snd.snd.fst.snd.fst, ())), (((y22.snd.snd.snd.fst.fst.fst, y22.snd.snd.snd.fst.fst.snd), (y22.snd.snd.snd.fst.snd.fst, ())), ()))
 else obind (z100_v n y22.snd.snd.snd.fst.fst.fst y22.snd.snd.snd.fst.fst.snd y22.snd.snd.snd.fst.snd.fst) fun y23 =>
 bif y23.fst then
 some (true, Sh.dflt (.agg [.s, .b, .i .i64, .s, .s, .sl kdT, .s, .b, .i .i64, .s]), (y23.snd.snd.fst.fst, (y23.snd.snd.fst.snd.fst, ())), (((y23.snd.snd.snd.fst.fst.fst, y23.snd.snd.snd.fst.fst.snd), (y23.snd.snd.snd.fst.snd.fst, ())), ()))
 else obind (z99_v n (ByteArray.mk #[97, 116]) y23.snd.snd.snd.fst.fst.fst y23.snd.snd.snd.fst.fst.snd y23.snd.snd.snd.fst.snd.fst) fun y24 =>
 bif y24.fst then
 obind (z92_v n y24.snd.fst.fst.fst y24.snd.fst.fst.snd y24.snd.fst.snd.fst) fun y25 =>
 bif y25.fst then
 some (true, Sh.dflt (.agg [.s, .b, .i .i64, .s, .s, .sl kdT, .s, .b, .i .i64, .s]), (y25.snd.snd.fst.fst, (y25.snd.snd.fst.snd.fst, ())), (((y25.snd.snd.snd.fst.fst.fst, y25.snd.snd.snd.fst.fst.snd), (y25.snd.snd.snd.fst.snd.fst, ())), ()))
 else some (false, (y20.snd.fst.fst, (y20.snd.fst.snd.fst, (y20.snd.fst.snd.snd.fst, (y20.snd.fst.snd.snd.snd.fst, (y22.snd.fst, ((y23.snd.fst.fst, y23.snd.fst.snd), (y25.snd.fst.fst, (y25.snd.fst.snd.fst, (y25.snd.fst.snd.snd.fst, (y25.snd.fst.snd.snd.snd.fst, ())))))))))), Sh.dflt (.ifc 79 (.agg [.i .i64, .i .i64])), (((y25.snd.snd.snd.fst.fst.fst, y25.snd.snd.snd.fst.fst.snd), (y25.snd.snd.snd.fst.snd.fst, ())), ()))
 else some (false, (y20.snd.fst.fst, (y20.snd.fst.snd.fst, (y20.snd.fst.snd.snd.fst, (y20.snd.fst.snd.snd.snd.fst, (y22.snd.fst, ((y23.snd.fst.fst, y23.snd.fst.snd), (ByteArray.mk #[], (false, (0, (ByteArray.mk #[], ())))))))))), Sh.dflt (.ifc 79 (.agg [.i .i64, .i .i64])), (((y24.snd.fst.fst.fst, y24.snd.fst.fst.snd), (y24.snd.fst.snd.fst, ())), ()))
 else obind (z98_v n y3.snd.fst.fst.fst y3.snd.fst.fst.snd y3.snd.fst.snd.fst) fun y26 =>
 bif y26.fst then
 some (true, Sh.dflt (.agg [.s, .b, .i .i64, .s, .s, .sl kdT, .s, .b, .i .i64, .s]), (y26.snd.snd.fst.fst, (y26.snd.snd.fst.snd.fst, ())), (((y26.snd.snd.snd.fst.fst.fst, y26.snd.snd.snd.fst.fst.snd), (y26.snd.snd.snd.fst.snd.fst, ())), ()))
 else obind (z100_v n y26.snd.snd.snd.fst.fst.fst y26.snd.snd.snd.fst.fst.snd y26.snd.snd.snd.fst.snd.fst) fun y27 =>
 bif y27.fst then
 some (true, Sh.dflt (.agg [.s, .b, .i .i64, .s, .s, .sl kdT, .s, .b, .i .i64, .s]), (y27.snd.snd.fst.fst, (y27.snd.snd.fst.snd.fst, ())), (((y27.snd.snd.snd.fst.fst.fst, y27.snd.snd.snd.fst.fst.snd), (y27.snd.snd.snd.fst.snd.fst, ())), ()))
 else obind (z99_v n (ByteArray.mk #[97, 116]) y27.snd.snd.snd.fst.fst.fst y27.snd.snd.snd.fst.fst.snd y27.snd.snd.snd.fst.snd.fst) fun y28 =>
 bif y28.fst then
 obind (z92_v n y28.snd.fst.fst.fst y28.snd.fst.fst.snd y28.snd.fst.snd.fst) fun y29 =>
 bif y29.fst then
 some (true, Sh.dflt (.agg [.s, .b, .i .i64, .s, .s, .sl kdT, .s, .b, .i .i64, .s]), (y29.snd.snd.fst.fst, (y29.snd.snd.fst.snd.fst, ())), (((y29.snd.snd.snd.fst.fst.fst, y29.snd.snd.snd.fst.fst.snd), (y29.snd.snd.snd.fst.snd.fst, ())), ()))
 else some (false, (ByteArray.mk #[], (false, (0, (ByteArray.mk #[], (y26.snd.fst, ((y27.snd.fst.fst, y27.snd.fst.snd), (y29.snd.fst.fst, (y29.snd.fst.snd.fst, (y29.snd.fst.snd.snd.fst, (y29.snd.fst.snd.snd.snd.fst, ())))))))))), Sh.dflt (.ifc 79 (.agg [.i .i64, .i .i64])), (((y29.snd.snd.snd.fst.fst.fst, y29.snd.snd.snd.fst.fst.snd), (y29.snd.snd.snd.fst.snd.fst, ())), ()))
 else some (false, (ByteArray.mk #[], (false, (0, (ByteArray.mk #[], (y26.snd.fst, ((y27.snd.fst.fst, y27.snd.fst.snd), (ByteArray.mk #[], (false, (0, (ByteArray.mk #[], ())))))))))), Sh.dflt (.ifc 79 (.agg [.i .i64, .i .i64])), (((y28.snd.fst.fst.fst, y28.snd.fst.fst.snd), (y28.snd.fst.snd.fst, ())), ()))
 else none
 else bif y3.fst.fst != 1 then
 obind (z92_v n y3.snd.fst.fst.fst y3.snd.fst.fst.snd y3.snd.fst.snd.fst) fun y30 =>
 bif y30.fst then
 some (true, Sh.dflt (.agg [.s, .b, .i .i64, .s, .s, .sl kdT, .s, .b, .i .i64, .s]), (y30.snd.snd.fst.fst, (y30.snd.snd.fst.snd.fst, ())), (((y30.snd.snd.snd.fst.fst.fst, y30.snd.snd.snd.fst.fst.snd), (y30.snd.snd.snd.fst.snd.fst, ())), ()))
 else obind (z94_v n (ByteArray.mk #[115, 97, 121, 115]) y30.snd.snd.snd.fst.fst.fst y30.snd.snd.snd.fst.fst.snd y30.snd.snd.snd.fst.snd.fst) fun y31 =>
 bif y31.fst then
 some (true, Sh.dflt (.agg [.s, .b, .i .i64, .s, .s, .sl kdT, .s, .b, .i .i64, .s]), (y31.snd.snd.fst.fst, (y31.snd.snd.fst.snd.fst, ())), (((y31.snd.snd.snd.fst.fst.fst, y31.snd.snd.snd.fst.fst.snd), (y31.snd.snd.snd.fst.snd.fst, ())), ()))
 else obind (z98_v n y31.snd.snd.snd.fst.fst.fst y31.snd.snd.snd.fst.fst.snd y31.snd.snd.snd.fst.snd.fst) fun y32 =>
 bif y32.fst then
 some (true, Sh.dflt (.agg [.s, .b, .i .i64, .s, .s, .sl kdT, .s, .b, .i .i64, .s]), (y32.snd.snd.fst.fst, (y32.snd.snd.fst.snd.fst, ())), (((y32.snd.snd.snd.fst.fst.fst, y32.snd.snd.snd.fst.fst.snd), (y32.snd.snd.snd.fst.snd.fst, ())), ()))
 else obind (z100_v n y32.snd.snd.snd.fst.fst.fst y32.snd.snd.snd.fst.fst.snd y32.snd.snd.snd.fst.snd.fst) fun y33 =>
 bif y33.fst then
 some (true, Sh.dflt (.agg [.s, .b, .i .i64, .s, .s, .sl kdT, .s, .b, .i .i64, .s]), (y33.snd.snd.fst.fst, (y33.snd.snd.fst.snd.fst, ())), (((y33.snd.snd.snd.fst.fst.fst, y33.snd.snd.snd.fst.fst.snd), (y33.snd.snd.snd.fst.snd.fst, ())), ()))
 else obind (z99_v n (ByteArray.mk #[97, 116]) y33.snd.snd.snd.fst.fst.fst y33.snd.snd.snd.fst.fst.snd y33.snd.snd.snd.fst.snd.fst) fun y34 =>
 bif y34.fst then
 obind (z92_v n y34.snd.fst.fst.fst y34.snd.fst.fst.snd y34.snd.fst.snd.fst) fun y35 =>
 bif y35.fst then
 some (true, Sh.dflt (.agg [.s, .b, .i .i64, .s, .s, .sl kdT, .s, .b, .i .i64, .s]), (y35.snd.snd.fst.fst, (y35.snd.snd.fst.snd.fst, ())), (((y35.snd.snd.snd.fst.fst.fst, y35.snd.snd.snd.fst.fst.snd), (y35.snd.snd.snd.fst.snd.fst, ())), ()))
 else some (false, (y30.snd.fst.fst, (y30.snd.fst.snd.fst, (y30.snd.fst.snd.snd.fst, (y30.snd.fst.snd.snd.snd.fst, (y32.snd.fst, ((y33.snd.fst.fst, y33.snd.fst.snd), (y35.snd.fst.fst, (y35.snd.fst.snd.fst, (y35.snd.fst.snd.snd.fst, (y35.snd.fst.snd.snd.snd.fst, ())))))))))), Sh.dflt (.ifc 79 (.agg [.i .i64, .i .i64])), (((y35.snd.snd.snd.fst.fst.fst, y35.snd.snd.snd.fst.fst.snd), (y35.snd.snd.snd.fst.snd.fst, ())), ()))
 else some (false, (y30.snd.fst.fst, (y30.snd.fst.snd.fst, (y30.snd.fst.snd.snd.fst, (y30.snd.fst.snd.snd.snd.fst, (y32.snd.fst, ((y33.snd.fst.fst, y33.snd.fst.snd), (ByteArray.mk #[], (false, (0, (ByteArray.mk #[], ())))))))))), Sh.dflt (.ifc 79 (.agg [.i .i64, .i .i64])), (((y34.snd.fst.fst.fst, y34.snd.fst.fst.snd), (y34.snd.fst.snd.fst, ())), ()))
 else obind (z98_v n y3.snd.fst.fst.fst y3.snd.fst.fst.snd y3.snd.fst.snd.fst) fun y36 =>
 bif y36.fst then
 some (true, Sh.dflt (.agg [.s, .b, .i .i64, .s, .s, .sl kdT, .s, .b, .i .i64, .s]), (y36.snd.snd.fst.fst, (y36.snd.snd.fst.snd.fst, ())), (((y36.snd.snd.snd.fst.fst.fst, y36.snd.snd.snd.fst.fst.snd), (y36.snd.snd.snd.fst.snd.fst, ())), ()))
 else obind (z100_v n y36.snd.snd.snd.fst.fst.fst y36.snd.snd.snd.fst.fst.snd y36.snd.snd.snd.fst.snd.fst) fun y37 =>
 bif y37.fst then
 some (true, Sh.dflt (.agg [.s, .b, .i .i64, .s, .s, .sl kdT, .s, .b, .i .i64, .s]), (y37.snd.snd.fst.fst, (y37.snd.snd.fst.snd.fst, ())), (((y37.snd.snd.snd.fst.fst.fst, y37.snd.snd.snd.fst.fst.snd), (y37.snd.snd.snd.fst.snd.fst, ())), ()))
 else obind (z99_v n (ByteArray.mk #[97, 116]) y37.snd.snd.snd.fst.fst.fst y37.snd.snd.snd.fst.fst.snd y37.snd.snd.snd.fst.snd.fst) fun y38 =>
 bif y38.fst then
 obind (z92_v n y38.snd.fst.fst.fst y38.snd.fst.fst.snd y38.snd.fst.snd.fst) fun y39 =>
 bif y39.fst then
 some (true, Sh.dflt (.agg [.s, .b, .i .i64, .s, .s, .sl kdT, .s, .b, .i .i64, .s]), (y39.snd.snd.fst.fst, (y39.snd.snd.fst.snd.fst, ())), (((y39.snd.snd.snd.fst.fst.fst, y39.snd.snd.snd.fst.fst.snd), (y39.snd.snd.snd.fst.snd.fst, ())), ()))
 else some (false, (ByteArray.mk #[], (false, (0, (ByteArray.mk #[], (y36.snd.fst, ((y37.snd.fst.fst, y37.snd.fst.snd), (y39.snd.fst.fst, (y39.snd.fst.snd.fst, (y39.snd.fst.snd.snd.fst, (y39.snd.fst.snd.snd.snd.fst, ())))))))))), Sh.dflt (.ifc 79 (.agg [.i .i64, .i .i64])), (((y39.snd.snd.snd.fst.fst.fst, y39.snd.snd.snd.fst.fst.snd), (y39.snd.snd.snd.fst.snd.fst, ())), ()))
 else some (false, (ByteArray.mk #[], (false, (0, (ByteArray.mk #[], (y36.snd.fst, ((y37.snd.fst.fst, y37.snd.fst.snd), (ByteArray.mk #[], (false, (0, (ByteArray.mk #[], ())))))))))), Sh.dflt (.ifc 79 (.agg [.i .i64, .i .i64])), (((y38.snd.fst.fst.fst, y38.snd.fst.fst.snd), (y38.snd.fst.snd.fst, ())), ())) := by kernel_rfl
theorem z57_c (n : Nat) (b0 : Bool) (r1 : Rows) (j2 : Int) (y : Bool × (ByteArray × Bool × Int × ByteArray × ByteArray × (Bool × Rows) × ByteArray × Bool × Int × ByteArray × Unit) × (Int × Int × Unit) × ((Bool × Rows) × Int × Unit) × Unit) (h : z57_v n b0 r1 j2 = some y) : Contract Tryz.prog 78 [AV.pl 1000 0] [[AV.sl b0 kdK r1 Right.no, aI j2]] (OSh.enc (OSh.pan (.agg [.s, .b, .i .i64, .s, .s, .sl kdT, .s, .b, .i .i64, .s]) (.ifc 79 (.agg [.i .i64, .i .i64])) [[.sl kdK, .i .i64]]) y) :=
 ac (OSh.pan (.agg [.s, .b, .i .i64, .s, .s, .sl kdT, .s, .b, .i .i64, .s]) (.ifc 79 (.agg [.i .i64, .i .i64])) [[.sl kdK, .i .i64]]) (z57_σok n) Tryz.func78 (by decide) h
end
end Go.Den
namespace Go.Proofs
open Go.Shelf
def itoaLays_ren : Go.Shelf.Ren := ⟨fun | 171 => 42 | 243 => 92 | 246 => 135 | 283 => 162 | 284 => 163 | 285 => 164 | 286 => 165 | 129 => 151 | 317 => 177 | 318 => 178 | 319 => 179 | 320 => 180 | 337 => 185 | 338 => 186 | n => n, fun | 3 => 3 | 9 => 9 | 2 => 2 | 4 => 4 | 171 => 199 | 0 => 0 | 53 => 193 | 37 => 128 | 5 => 5 | 173 => 201 | 212 => 215 | 51 => 191 | 20 => 20 | 213 => 216 | 46 => 162 | 232 => 220 | 233 => 221 | n => n, fun | 17 => 0 | 18 => 1 | 19 => 2 | n => n⟩
theorem itoaLays : Go.Proofs.LaysM.n171 Tryz.prog itoaLays_ren := {
 mixed := by kernel_rfl
 f129 := Tryz.func151.trans (congrArg some (by kernel_rfl))
 f171 := Tryz.func42.trans (congrArg some (by kernel_rfl))
 f243 := Tryz.func92.trans (congrArg some (by kernel_rfl))
 f246 := Tryz.func135.trans (congrArg some (by kernel_rfl))
 f283 := Tryz.func162.trans (congrArg some (by kernel_rfl))
 f284 := Tryz.func163.trans (congrArg some (by kernel_rfl))
 f285 := Tryz.func164.trans (congrArg some (by kernel_rfl))
 f286 := Tryz.func165.trans (congrArg some (by kernel_rfl))
 f317 := Tryz.func177.trans (congrArg some (by kernel_rfl))
 f318 := Tryz.func178.trans (congrArg some (by kernel_rfl))
 f319 := Tryz.func179.trans (congrArg some (by kernel_rfl))
 f320 := Tryz.func180.trans (congrArg some (by kernel_rfl))
 f337 := Tryz.func185.trans (congrArg some (by kernel_rfl))
 f338 := Tryz.func186.trans (congrArg some (by kernel_rfl))
 t0 := Tryz.underlying0
 a0 := Tryz.isAgg0
 z0 := Tryz.sizeOf0
 v0 := Tryz.zeroValue0
 t2 := Tryz.underlying2
 a2 := Tryz.isAgg2
 z2 := Tryz.sizeOf2
 v2 := Tryz.zeroValue2
 t3 := Tryz.underlying3
 a3 := Tryz.isAgg3
 z3 := Tryz.sizeOf3
 v3 := Tryz.zeroValue3
 t4 := Tryz.underlying4
 a4 := Tryz.isAgg4
 z4 := Tryz.sizeOf4
 v4 := Tryz.zeroValue4
 t5 := Tryz.underlying5
 a5 := Tryz.isAgg5
 z5 := Tryz.sizeOf5
 v5 := Tryz.zeroValue5
 t9 := Tryz.underlying9
 a9 := Tryz.isAgg9
 z9 := Tryz.sizeOf9
 v9 := Tryz.zeroValue9
 t20 := Tryz.underlying20
 a20 := Tryz.isAgg20
 z20 := Tryz.sizeOf20
 v20 := Tryz.zeroValue20
 t37 := Tryz.underlying128
 a37 := Tryz.isAgg128
 z37 := Tryz.sizeOf128
 v37 := Tryz.zeroValue128
 t46 := Tryz.underlying162
 a46 := Tryz.isAgg162
 z46 := Tryz.sizeOf162
 v46 := Tryz.zeroValue162
 t51 := Tryz.underlying191
 a51 := Tryz.isAgg191
 z51 := Tryz.sizeOf191
 v51 := Tryz.zeroValue191
 t53 := Tryz.underlying193
 a53 := Tryz.isAgg193
 z53 := Tryz.sizeOf193
 v53 := Tryz.zeroValue193
 t171 := Tryz.underlying199
 a171 := Tryz.isAgg199
 z171 := Tryz.sizeOf199
 v171 := Tryz.zeroValue199
 t173 := Tryz.underlying201
 a173 := Tryz.isAgg201
 z173 := Tryz.sizeOf201
 v173 := Tryz.zeroValue201
 t212 := Tryz.underlying215
 a212 := Tryz.isAgg215
 z212 := Tryz.sizeOf215
 v212 := Tryz.zeroValue215
 t213 := Tryz.underlying216
 a213 := Tryz.isAgg216
 z213 := Tryz.sizeOf216
 t232 := Tryz.underlying220
 a232 := Tryz.isAgg220
 z232 := Tryz.sizeOf220
 v232 := Tryz.zeroValue220
 t233 := Tryz.underlying221
 a233 := Tryz.isAgg221
 z233 := Tryz.sizeOf221
 v233 := Tryz.zeroValue221
 g17 := by kernel_rfl
 g18 := by kernel_rfl
 g19 := by kernel_rfl
 i0 := by kernel_rfl
 i2 := by kernel_rfl
 i3 := by kernel_rfl
 i4 := by kernel_rfl
 i5 := by kernel_rfl
 i9 := by kernel_rfl
 i20 := by kernel_rfl
 i37 := by kernel_rfl
 i46 := by kernel_rfl
 i51 := by kernel_rfl
 i53 := by kernel_rfl
 i171 := by kernel_rfl
 i173 := by kernel_rfl
 i212 := by kernel_rfl
 i232 := by kernel_rfl
 i233 := by kernel_rfl
 m17 := by kernel_rfl
 m18 := by kernel_rfl
 m19 := by kernel_rfl }
end Go.Proofs
namespace Go.Den
open Go.Proofs Go.RowKit
set_option maxHeartbeats 1000000 in
set_option maxRecDepth 100000 in
theorem copy_used (b : Nat) (w : World) (h0 : w.cell? ⟨b, 0, none⟩ = some (.pointer (some ⟨b, 0, none⟩))) :
  Calls Tryz.prog 132 #[.pointer (some ⟨b, 0, none⟩)] w fun e w' => e = .returned (.tuple #[]) ∧ w' = w := by
 obtain ⟨j, hj, _⟩ := Option.map_eq_some_iff.1 (show (Tryz.prog.info? 130).map (·.size) = some 2 by kernel_rfl)
 have mixed : Tryz.prog.follows .mixedOrders = true := by kernel_rfl
 go_enter Tryz.func132, Tryz.ntmps132
 go_wp2
 rw [Lib.run_neq_ptr_same w _ Tryz.underlying127 hj]
 go_wp2
 go_end0
 exact ⟨rfl, rfl⟩
set_option maxHeartbeats 1000000 in
set_option maxRecDepth 100000 in
theorem copy_new (b : Nat) (w : World) (h0 : w.cell? ⟨b, 0, none⟩ = some (.pointer none)) (hsh : w.shape? b = some (132, 3)) (hfz : w.frozen? ⟨b, 0, none⟩ = false) :
  Calls Tryz.prog 132 #[.pointer (some ⟨b, 0, none⟩)] w fun e w' => e = .returned (.tuple #[]) ∧ w' = w.setCell ⟨b, 0, none⟩ (.pointer (some ⟨b, 0, none⟩)) := by
 obtain ⟨j, hj, hjs⟩ := Option.map_eq_some_iff.1 (show (Tryz.prog.info? 130).map (·.size) = some 2 by kernel_rfl)
 have mixed : Tryz.prog.follows .mixedOrders = true := by kernel_rfl
 go_enter Tryz.func132, Tryz.ntmps132
 go_wp2
 rw [Lib.run_to_unsafe w ⟨b, 0, none⟩ Tryz.underlying127 Tryz.underlying197 hj (by rw [hjs]; decide) hsh (Nat.zero_lt_succ 2)]
 simp only [Result.andThen]
 rw [Oper.upon_value]
 go_wp2
 rw [run_callFunc_extern Tryz.func161 (by kernel_rfl) (by kernel_rfl) (by kernel_rfl) (e := Extern.AbiNoEscape.same) (by kernel_rfl)]
 rw [Lib.run_noEscape]
 simp only [Result.andThen]
 rw [Oper.upon_value]
 go_wp2
 rw [Lib.run_from_unsafe w ⟨b, 0, none⟩ Tryz.underlying197 Tryz.underlying127 hj hsh (by kernel_rfl)]
 simp only [Result.andThen]
 rw [Oper.upon_value]
 go_wp2
 go_end0
 exact ⟨rfl, rfl⟩
set_option maxHeartbeats 1000000 in
set_option maxRecDepth 100000 in
theorem string_walk (b g cap : Nat) (l : List UInt8) (h0 : l ≠ []) (cur : Array Value) (w : World) (hc1 : w.cell? ⟨b, 1, none⟩ = some (.slice (some ⟨g, 0, none⟩) l.length cap)) (hg : w.heap[g]? = some (.cells cur 5 (0, 0)))
  (hn : l.length ≤ cap) (hcm : cap ≤ maxLen) (hcs : l.length ≤ cur.size) (hcell : ∀ j x, l[j]? = some x → w.cell? ((⟨g, 0, none⟩ : Addr).add j) = some (.int .u8 x.toNat)) :
  Calls Tryz.prog 84 #[.pointer (some ⟨b, 0, none⟩)] w fun e w' => e = .returned (.string ⟨l.toArray⟩) ∧ w' = w.drew.freeze ⟨g, 0, none⟩ l.length := by
 have hl0 : l.length ≠ 0 := by simpa using h0
 have c1 : w.drew.cell? ⟨b, 1, none⟩ = some (.slice (some ⟨g, 0, none⟩) l.length cap) := hc1
 have hSD : (Builtin.unsafeSliceData_ #[128] 177 #[.slice (some ⟨g, 0, none⟩) l.length cap]).run Tryz.prog w.drew = .ok (.pointer (some ⟨g, 0, none⟩)) w.drew :=
  Lib.run_unsafeSliceData_row _ _ _ _ _ _ (by omega)
 have hUS : (Builtin.unsafeString_ #[177, 3] 9 #[.pointer (some ⟨g, 0, none⟩), .int .i64 l.length]).run Tryz.prog w.drew = .ok (.string ⟨l.toArray⟩) (w.drew.freeze ⟨g, 0, none⟩ l.length) := by
  refine Lib.run_unsafeString_row w.drew 177 3 9 5 Tryz.underlying177 (by kernel_rfl) g cur.size (by have hg' : w.drew.heap[g]? = some (.cells cur 5 (0, 0)) := hg; simp [World.shape?, hg']) l h0 (by omega) (by unfold maxLen at hcm; omega) ?_
  intro j x hx
  exact hcell j x hx
 have mixed : Tryz.prog.follows .mixedOrders = true := by kernel_rfl
 go_enter Tryz.func84, Tryz.ntmps84
 go_wp2
 go_region_o
 all_goals (go_wp2; go_ret; exact ⟨rfl, rfl⟩)
end Go.Den
