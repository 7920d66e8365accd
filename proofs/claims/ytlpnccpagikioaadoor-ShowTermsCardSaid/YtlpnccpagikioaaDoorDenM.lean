import Derived.Test.YtlpnccpagikioaaDoorDen0
set_option linter.unusedVariables false
set_option linter.unusedSimpArgs false
set_option linter.unusedSectionVars false
/- The interpreter over a memo of what it asks about types. -/
namespace Go.Den
structure Memo where
  und : TypeId → Option TypeDesc
  kds : TypeId → Option (List Kd)
  zero : TypeId → Option (List AV)
  plain : TypeId → Option (List Kd)
  guard : TypeId → Bool
  size : TypeId → Option Nat
  agg : TypeId → Option Bool
  sized : TypeId → Bool
  info : TypeId → Option TypeInfo
def Memo.std (P : Program) : Memo := ⟨P.underlying, kdsOf P 9, zeroOf P, plainKds P 9, P.eqGuardType P.depth, size? P, agg? P, Go.Den.sized P, P.info?⟩
end Go.Den
namespace Go.Den.DM

noncomputable section
variable (M : Memo) (Φ : Orc)
/-- A constant. -/
def ofConst (t : TypeId) : Value → Option AV
  | .bool b => some (.B b)
  | .int k n => some (.I k n)
  | .string s => some (.S s)
  | .pointer none => some (.dv (.val (.pointer none)))
  | .nilFunc => some (.dv (.val .nilFunc))
  | .nilIface => some (.dv (.val .nilIface))
  | .slice none 0 0 =>
    match M.und t with
    | some (.slice e) => match  M.kds e with | some ks => some (.sl true ks [] .ex) | none => none
    | _ => none
  | _ => none
def evT (t : List AV) (ty : TypeId) : Operand → Option AV
  | .tmp i => t[i]?
  | .const v => ofConst M ty v
  | .func f => some (.fn f [])
  | .global _ => none

/-- Where field i begins, and its type. -/
def field? (t : TypeId) (i : Nat) : Option (Nat × TypeId) :=
  match M.und t with
  | some (.struct fs) => match fs[i]? with | some f => some (f.offset, f.type) | none => none
  | _ => none
/-- A part of a composite: where it begins, and its size. -/
def place? (t : TypeId) (i : Nat) : Option (Nat × Nat × TypeId) :=
  match M.und t with
  | some (.struct fs) => match fs[i]? with | some f => (match M.size f.type with | some n => some (f.offset, n, f.type) | none => none) | none => none
  | some (.array _ e) => match M.size e with | some n => some (i * n, n, e) | none => none
  | _ => none

def parts (t : TypeId) (tm : List AV) : List (Nat × Operand) → List AV → Option (List AV)
  | [], cs => some cs
  | (i, x) :: rest, cs =>
    match place? M t i with
    | some (off, n, ty) => match evT M tm ty x with
      | some v => match v.cells with
        | some new => if Nat.beq new.length n && Nat.ble (off + n) cs.length then parts t tm rest (splice cs off new) else none
        | none => none
      | none => none
    | none => none

def rowsOf (e : TypeId) (ks : List Kd) (tm : List AV) : List (Nat × Operand) → Rows → Option Rows
  | [], rs => some rs
  | (i, x) :: rest, rs =>
    match evT M tm e x with
    | some v => match v.row with
      | some r => if Row.ofKds ks r && Nat.blt i rs.length then rowsOf e ks tm rest (rs.set i r) else none
      | none => none
    | none => none

def binE (op : BinOp) (t : TypeId) (a b : AV) : Option AV :=
  match a, b with
  | .dv (.val (.int k x)), .dv (.val (.int j y)) => if k = j then arith op k x y else none
  | .dv (.val (.string x)), .dv (.val (.string y)) => strOp op x y
  | .dv (.val (.bool x)), .dv (.val (.bool y)) =>
    match M.und t with
    | some .bool => nilOp op (x == y)
    | _ => none
  | .agg x, .agg y =>
    match M.und t, M.plain t with
    | some (.struct _), some ks => if M.guard t then none else match eqK ks x y with | some r => nilOp op r | none => none
    | _, _ => none
  | .sl n _ _ _, .sl true _ [] .ex => match M.und t with | some (.slice _) => nilOp op n | _ => none
  | .ms .., .sl true _ [] .ex => match M.und t with | some (.slice _) => nilOp op false | _ => none
  | .pl _ _, .dv (.val (.pointer none)) => match M.und t with | some (.pointer _) => nilOp op false | _ => none
  | .fn _ _, .dv (.val .nilFunc) => match M.und t with | some (.func _ _ _) => nilOp op false | _ => none
  | .ifc _ _, .dv (.val .nilIface) => match M.und t with | some (.interface _) => nilOp op false | _ => none
  | .dv (.val .nilIface), .dv (.val .nilIface) => match M.und t with | some (.interface ms) => (match ms.toList with | [] => nilOp op true | _ => none) | _ => none
  | .dv (.val .nilFunc), .dv (.val .nilFunc) => match M.und t with | some (.func _ _ _) => nilOp op true | _ => none
  | .dv (.val (.pointer none)), .dv (.val (.pointer none)) => match M.und t with | some (.pointer _) => nilOp op true | _ => none
  | .pl k off, .pl k' off' => match M.und t with
    | some (.pointer el) => match M.size el, Nat.beq k k' && Nat.beq off off' with
      | some _, true => nilOp op true
      | _, _ => none
    | _ => none
  | _, _ => none
def evs (tm : List AV) : List TypeId → List Operand → Option (List AV)
  | _, [] => some []
  | [], x :: xs => match evT M tm 0 x with
    | some v => match evs tm [] xs with | some l => some (v :: l) | none => none
    | none => none
  | t :: ts, x :: xs => match evT M tm t x with
    | some v => match evs tm ts xs with | some l => some (v :: l) | none => none
    | none => none

/-- Is a type's element of these kinds? -/
def elemOk (t : TypeId) (ks : List Kd) : Bool :=
  match M.und t with
  | some (.slice e) => match  M.kds e, M.size e with | some ke, some n => Kd.sameL ks ke && Nat.beq n ke.length | _, _ => false
  | _ => false

/-- The rows off .. off + n - 1 are a zero value's; others'. -/
def clearE {R : Type} (m : Mem) (ts : List TypeId) (j : Nat) (ks : List Kd) (off n : Nat) (k : Eff → Option R) : Option R :=
  match ts with
  | [t] => match M.und t with
    | some (.slice e) => match M.zero e, lookupA m j with
      | some z, some (ks2, rows) => match AV.flats z with
        | some zr => match Kd.sameL ks ks2 && Row.ofKds ks zr with
          | true => if off + n ≤ rows.length then k (.full (.tup []) [] [] [(j, [.arr ks (rows.take off ++ List.replicate n zr ++ rows.drop (off + n))])]) else none
          | false => none
        | none => none
      | _, _ => none
    | _ => none
  | _ => none
def copyE {R : Type} (m : Mem) (ts : List TypeId) (j : Nat) (ks : List Kd) (off n : Nat) (ks2 : List Kd) (rows2 : Rows) (k : Eff → Option R) : Option R :=
  match ts with
  | [t, _] => match elemOk M t ks && Kd.sameL ks ks2, lookupA m j with
    | true, some (ks3, rows) => match Kd.sameL ks ks3 with
      | true => if off + n ≤ rows.length then k (.full (.I .i64 (min rows2.length n : Nat)) [] [] [(j, [.arr ks (rows.take off ++ rows2.take (min rows2.length n) ++ rows.drop (off + min rows2.length n))])]) else none
      | false => none
    | _, _ => none
  | _ => none
def builtinE {R : Type} (m : Mem) (d : Option Tmp) (b : Builtin) (ts : List TypeId) (args : List AV) (k : Eff → Option R) : Option R :=
  match b, args with
  | .len, [.dv (.val (.string s))] => match ts with
    | t :: _ => match M.und t with
      | some .string => k (.pure (.I .i64 s.size))
      | _ => none
    | [] => none
  | .len, [.sl _ _ rows _] => match ts with
    | t :: _ => match M.und t with
      | some (.slice _) => k (.pure (.I .i64 rows.length))
      | _ => none
    | [] => none
  | .len, [.ms _ _ _ n _] => match ts with
    | t :: _ => match M.und t with
      | some (.slice _) => k (.pure (.I .i64 n))
      | _ => none
    | [] => none
  | .min, [.dv (.val (.int j x)), .dv (.val (.int l y))] => if j = l then k (.pure (.I j (if y < x then y else x))) else none
  | .max, [.dv (.val (.int j x)), .dv (.val (.int l y))] => if j = l then k (.pure (.I j (if y > x then y else x))) else none
  | .append, [.sl n ks rows r, .sl _ ks2 rows2 _] =>
    match d, ts with
    | some d, [t, t2] =>
      match M.und t with
      | some (.slice e) => match M.info e,  M.kds e, appendRight d r with
        | some i, some ke, some strike =>
          match i.zero with
          | some z =>
            if Nat.beq t t2 && Kd.sameL ks ke && Kd.sameL ks2 ke && Nat.beq i.size ke.length && Nat.beq z.cells.size i.size && Nat.blt 0 i.bytes then
              if (rows.length + rows2.length) * i.bytes ≤ 140737488355328 then
                k (.full (.sl (n && rows2.isEmpty) ks (rows ++ rows2) (appTok d r rows rows2)) [] strike [])
              else none
            else none
          | none => none
        | _, _, _ => none
      | _ => none
    | _, _ => none
  | .clear, [.ms j ks off n _] => clearE M m ts j ks off n k
  | .copy, [.ms j ks off n _, .sl _ ks2 rows2 _] => copyE M m ts j ks off n ks2 rows2 k
  | _, _ => none

def evO (tm : List AV) : Option Operand → Option (Option AV)
  | none => some none
  | some x => match evT M tm 0 x with | some v => some (some v) | none => none

def loadE {R : Type} (m : Mem) (t : TypeId) (a : AV) (k : Eff → Option R) : Option R :=
  match M.agg t, M.size t with
  | some true, some n =>
    match a with
    | .pl j off => match lookupC m j with
      | some cs => if Nat.ble (off + n) cs.length then k (.pure (.agg ((cs.drop off).take n))) else none
      | none => none
    | .pv ks row off => if Nat.ble (off + n) ks.length then k (.pure (.agg (Row.cells row ((ks.drop off).take n) off))) else none
    | .pa j ks i q => match lookupA m j with
      | some (ks2, rows) => if Kd.sameL ks ks2 && Nat.ble (q + n) ks.length then if i < rows.length then k (.pure (.agg (Row.cells (rows.getD i []) ((ks.drop q).take n) q))) else none else none
      | none => none
    | _ => none
  | some false, some _ =>
    match a with
    | .pl j off => match lookupC m j with
      | some cs => match cs[off]? with
        | some v => k (.pure v)
        | none => none
      | none => none
    | .pv ks row off => match ks[off]? with
      | some kd => k (.pure (Row.cell kd row off))
      | none => none
    | .pa j ks i q => match lookupA m j, ks[q]? with
      | some (ks2, rows), some kd => if Kd.sameL ks ks2 then if i < rows.length then k (.pure (Row.cell kd (rows.getD i []) q)) else none else none
      | _, _ => none
    | _ => none
  | _, _ => none

def storeE {R : Type} (m : Mem) (t : TypeId) (a v : AV) (k : Eff → Option R) : Option R :=
  match M.size t, a, v.cells with
  | some n, .pl j off, some new =>
    match lookupC m j with
    | some cs => if Nat.beq new.length n && Nat.ble (off + n) cs.length && AV.areCells new then k (.full .junk [] [] [(j, splice cs off new)]) else none
    | none => none
  | some n, .pa j ks i q, some new =>
    match lookupA m j, AV.flats new with
    | some (ks2, rows), some fl =>
      if Kd.sameL ks ks2 && Nat.beq new.length n && Nat.ble (q + n) ks.length && Row.ofKds ((ks.drop q).take n) fl then
        if i < rows.length then k (.full .junk [] [] [(j, [.arr ks (rows.set i (spliceD (rows.getD i []) q fl))])]) else none
      else none
    | _, _ => none
  | _, _, _ => none

def opE {R : Type} (tm : List AV) (m : Mem) (o : Oper) (k : Eff → Option R) (kp : Eff → Option R) : Option R :=
  match o.op with
  | .move x => match evT M tm o.type x with | some v => k (.pure v) | none => none
  | .assign x => match evT M tm o.type x with | some v => k (.pure v) | none => none
  | .pick c a b =>
    match evT M tm 0 c with
    | some (.dv (.val (.bool true))) => match evT M tm o.type a with | some v => k (.pure v) | none => none
    | some (.dv (.val (.bool false))) => match evT M tm o.type b with | some v => k (.pure v) | none => none
    | _ => none
  | .alloc e =>
    match o.dst, M.zero e with
    | some d, some cs => if Nat.blt d 1000 then k (.full (.pl d 0) [d] [] [(d, cs)]) else none
    | _, _ => none
  | .box e x =>
    match o.dst, evT M tm e x with
    | some d, some v => match v.cells with
      | some cs => if Nat.blt d 1000 then k (.full (.pl d 0) [d] [] [(d, AV.scrubL [d] [] cs)]) else none
      | none => none
    | _, _ => none
  | .build t ps =>
    match M.zero t, M.sized t with
    | some cs, true => match parts M t tm ps.toList cs with
      | some cs => k (.pure (.agg cs))
      | none => none
    | _, _ => none
  | .buildSlice t n ps =>
    match M.und t with
    | some (.slice e) => match  M.kds e, M.zero e, M.size e with
      | some ks, some z, some se => match AV.flats z with
        | some zr => match rowsOf M e ks tm ps.toList (List.replicate n zr) with
          | some rows => if Nat.beq se ks.length && Row.ofKds ks zr && Nat.ble (n * se) 16777216 then
              match o.dst with
              | some d => match mem d Φ.hs && Nat.blt d 1000 && Nat.ble n 16777216 with
                | true => k (.full (.ms d ks 0 n n) [d] [] [(d, [.arr ks rows])])
                | false => k (.pure (.sl false ks rows .ex))
              | none => k (.pure (.sl false ks rows .ex))
            else none
          | none => none
        | none => none
      | _, _, _ => none
    | _ => none
  | .load t a => match evT M tm 0 a with | some v => loadE M m t v k | none => none
  | .store t a x => match evT M tm 0 a, evT M tm t x with | some v, some x => storeE M m t v x k | _, _ => none
  | .nilCheck x =>
    match evT M tm 0 x with
    | some (.pl j off) => k (.pure (.pl j off))
    | some (.pv ks row off) => k (.pure (.pv ks row off))
    | some (.pa j ks i q) => k (.pure (.pa j ks i q))
    | some (.fn f caps) => k (.pure (.fn f caps))
    | _ => none
  | .binOp op t x y u =>
    match op with
    | .quo => match evT M tm t x, evT M tm u y with
      | some (.dv (.val (.int j x))), some (.dv (.val (.int l y))) => if j = l then if y = 0 then none else k (.pure (.I j (j.wrap (x.tdiv y)))) else none
      | _, _ => none
    | .rem => match evT M tm t x, evT M tm u y with
      | some (.dv (.val (.int j x))), some (.dv (.val (.int l y))) => if j = l then if y = 0 then none else k (.pure (.I j (x.tmod y))) else none
      | _, _ => none
    | .shl => match evT M tm t x, evT M tm u y with
      | some (.dv (.val (.int j x))), some (.dv (.val (.int _ y))) => if y < 0 then none else k (.pure (.I j (j.wrap (x * 2 ^ (min y.toNat j.bits)))))
      | _, _ => none
    | .shr => match evT M tm t x, evT M tm u y with
      | some (.dv (.val (.int j x))), some (.dv (.val (.int _ y))) => if y < 0 then none else k (.pure (.I j (x.fdiv (2 ^ (min y.toNat j.bits)))))
      | _, _ => none
    | .add => match evT M tm t x, evT M tm u y with
      | some (.dv (.val (.string x))), some (.dv (.val (.string y))) => if x.size + y.size < 4611686018427387904 then k (.pure (.S (x ++ y))) else none
      | some a, some b => match binE M .add t a b with | some v => k (.pure v) | none => none
      | _, _ => none
    | op => match evT M tm t x, evT M tm u y with
      | some a, some b => match binE M op t a b with | some v => k (.pure v) | none => none
      | _, _ => none
  | .unOp op t x =>
    match op, evT M tm t x with
    | .neg, some (.dv (.val (.int j n))) => k (.pure (.I j (j.wrap (0 - n))))
    | .not, some (.dv (.val (.bool b))) => k (.pure (.B (!b)))
    | _, _ => none
  | .convert src dst x =>
    match M.und src, M.und dst, evT M tm src x with
    | some (.int _), some (.int j), some (.dv (.val (.int _ n))) => k (.pure (.I j (j.wrap n)))
    | some .string, some .string, some (.dv (.val (.string s))) => k (.pure (.S s))
    | some (.slice e), some .string, some (.sl _ [.i .u8] rows _) =>
      match M.und e with
      | some (.int .u8) => k (.pure (.S (bytesOf rows)))
      | _ => none
    | _, _, _ => none
  | .makeInterface t x =>
    match M.und t, evT M tm t x with
    | some (.interface _), _ => none
    | some _, some v => k (.pure (.ifc t v))
    | _, _ => none
  | .makeFunc (.func f) first caps =>
    match first.toList, evs M tm [] caps.toList with
    | [], some l => k (.pure (.fn f l))
    | _, _ => none
  | .slice t x lo hi mx =>
    match evT M tm t x, evO M tm lo, evO M tm hi, evO M tm mx with
    | some (.dv (.val (.string s))), some l, some h, some q => match M.und t with | some .string => sliceE (.S s) l h q k | _ => none
    | some (.sl n ks rows r), some l, some h, some q => if elemOk M t ks then sliceE (.sl n ks rows r) l h q k else none
    | some (.ms j ks off n c), some l, some h, some q => if elemOk M t ks then sliceE (.ms j ks off n c) l h q k else none
    | _, _, _, _ => none
  | .fieldAddr s x f =>
    match field? M s f, evT M tm 0 x with
    | some (off, ft), some (.pl j o) => match M.size ft with | some n => if Nat.blt 0 n then k (.pure (.pl j (o + off))) else none | none => none
    | some (off, ft), some (.pv ks row o) => match M.size ft with | some n => if Nat.blt 0 n then k (.pure (.pv ks row (o + off))) else none | none => none
    | some (off, ft), some (.pa j ks i q) => match M.size ft with | some n => if Nat.blt 0 n then k (.pure (.pa j ks i (q + off))) else none | none => none
    | _, _ => none
  | .field s x f =>
    match field? M s f, evT M tm s x with
    | some (off, ft), some (.agg cs) =>
      match M.agg ft, M.size ft with
      | some true, some n => if Nat.ble (off + n) cs.length then k (.pure (.agg ((cs.drop off).take n))) else none
      | some false, some _ => match cs[off]? with | some v => k (.pure v) | none => none
      | _, _ => none
    | _, _ => none
  | .indexAddr t x i =>
    match evT M tm t x, evT M tm 0 i with
    | some (.sl _ ks rows _), some (.dv (.val (.int _ i))) =>
      if elemOk M t ks && Nat.blt 0 ks.length then if 0 ≤ i then if i < (rows.length : Int) then k (.pure (.pv ks (rows.getD i.toNat []) 0)) else none else none else none
    | some (.ms j ks off n _), some (.dv (.val (.int _ i))) =>
      if elemOk M t ks && Nat.blt 0 ks.length then if 0 ≤ i then if i < (n : Int) then k (.pure (.pa j ks (off + i.toNat) 0)) else none else none else none
    | _, _ => none
  | .index t x i =>
    match evT M tm t x, evT M tm 0 i with
    | some (.dv (.val (.string s))), some (.dv (.val (.int _ i))) =>
      match M.und t with
      | some .string => if 0 ≤ i then if i < (s.size : Int) then k (.pure (.I .u8 (bt s i))) else none else none
      | _ => none
    | some (.agg cs), some (.dv (.val (.int _ i))) =>
      match M.und t with
      | some (.array l e) => match  M.kds e, M.agg e, M.size e, AV.flats cs with
        | some [kd], some false, some 1, some row =>
          if Nat.beq cs.length l && Row.ofKds (List.replicate l kd) row then
            if 0 ≤ i then if i < (l : Int) then k (.pure (Row.cell kd row i.toNat)) else none else none
          else none
        | _, _, _, _ => none
      | _ => none
    | _, _ => none
  | .typeAssert x _ t false =>
    match M.und t, evT M tm 0 x with
    | some (.interface _), _ => none
    | some _, some (.ifc u v) => if Nat.beq u t then k (.pure v) else none
    | _, _ => none
  | .extract x i =>
    match evT M tm 0 x with
    | some (.tup vs) => match vs[i]? with | some v => k (.pure v) | none => none
    | _ => none
  | .panic x =>
    match evT M tm o.type x with
    | some (.ifc t v) => kp (.pure (.ifc t v))
    | _ => none
  | .call c =>
    match c.callee with
    | .builtin b => match evs M tm c.argTypes.toList c.args.toList with
      | some args => builtinE M m o.dst b c.argTypes.toList args k
      | none => none
    | .value f => match evT M tm 0 f, evs M tm c.argTypes.toList c.args.toList with
      | some (.fn f caps), some args => callE Φ m o.dst f (args ++ caps) k kp
      | _, _ => none
    | _ => none
  | _ => none

def stepE {R : Type} (o : Oper) (s : St) (k : St → Option R) (kp : AV → St → Option R) : Option R :=
  opE M Φ s.t s.m o (fun e => k (s.apply o.dst e)) (fun e => kp e.val (s.apply none e))

/-- The slots that an operation looks at or writes. -/
def touch (tm : List AV) (o : Oper) : List Nat :=
  match o.op with
  | .load _ x => match evT M tm 0 x with | some (.pl j _) => [j] | some (.pa j _ _ _) => [j] | _ => []
  | .store _ x _ => match evT M tm 0 x with | some (.pl j _) => [j] | some (.pa j _ _ _) => [j] | _ => []
  | .call c => match c.callee with
    | .value f => match evT M tm 0 f, evs M tm c.argTypes.toList c.args.toList with
      | some (.fn _ caps), some args => dedup (AV.slots (args ++ caps))
      | _, _ => []
    | .builtin .clear => match evs M tm c.argTypes.toList c.args.toList with | some args => AV.slots args | none => []
    | .builtin .copy => match evs M tm c.argTypes.toList c.args.toList with | some args => AV.slots args | none => []
    | _ => []
  | _ => []
def regD {R : Type} (kp : AV → St → Option R) (all : List Oper) (B : List (List Nat)) : List Oper → List El → St → (St → Option R) → Option R
  | [], _, s, k => k s
  | o :: rest, acc, s, k =>
    match o.guard with
    | none =>
      opE M Φ s.t s.m o (fun e =>
        regN B acc (El.of all B acc.length o e true (touch M s.t o)) (s.apply o.dst e) (fun acc s => regD kp all B rest acc s k)) (fun e => regP kp all B acc o s e)
    | some (j, want) =>
      match guardTmp all j with
      | none => none
      | some d =>
        match s.t[d]? with
        | some (.dv (.val (.bool b))) =>
          match b, want with
          | true, true =>
            opE M Φ (s.t.set d (.B true)) s.m o (fun e =>
              regN B acc (El.of all B acc.length o e true (touch M (s.t.set d (.B true)) o)) ((St.mk (s.t.set d (.B true)) s.m).apply o.dst e) (fun acc s => regD kp all B rest acc s k)) (fun _ => none)
          | false, false =>
            opE M Φ (s.t.set d (.B false)) s.m o (fun e =>
              regN B acc (El.of all B acc.length o e true (touch M (s.t.set d (.B false)) o)) ((St.mk (s.t.set d (.B false)) s.m).apply o.dst e) (fun acc s => regD kp all B rest acc s k)) (fun _ => none)
          | true, false =>
            regN B acc (El.of all B acc.length o (.pure .junk) false []) ((St.mk (s.t.set d (.B true)) s.m).apply o.dst (.pure .junk)) (fun acc s => regD kp all B rest acc s k)
          | false, true =>
            regN B acc (El.of all B acc.length o (.pure .junk) false []) ((St.mk (s.t.set d (.B false)) s.m).apply o.dst (.pure .junk)) (fun acc s => regD kp all B rest acc s k)
        | _ => none
/-- A drawn region. -/
def regA {R : Type} (kp : AV → St → Option R) (ops : List Oper) (s : St) (k : St → Option R) : Option R :=
  if backs 0 ops then
    befsK ops [] fun B => match strikes ops B 0 ops with
    | (p, ks) => regD M Φ kp ops B ops [] (strike p ks s) k
  else none

def reg1 {R : Type} (all : List Oper) (o : Oper) (s : St) (k : St → Option R) (kp : AV → St → Option R) : Option R :=
    match o.guard with
    | none => stepE M Φ o s k kp
    | some (j, want) =>
      match guardTmp all j with
      | none => none
      | some d =>
        match s.t[d]? with
        | some (.dv (.val (.bool b))) =>
          match b, want with
          | true, true => stepE M Φ o { t := s.t.set d (.B true), m := s.m } k kp
          | false, false => stepE M Φ o { t := s.t.set d (.B false), m := s.m } k kp
          | true, false => k { t := setT (s.t.set d (.B true)) o.dst (.tup []), m := s.m }
          | false, true => k { t := setT (s.t.set d (.B false)) o.dst (.tup []), m := s.m }
        | some (.tup []) => k { t := setT s.t o.dst (.tup []), m := s.m }
        | _ => none
def regE {R : Type} (lv : Live) (all : List Oper) : List Oper → St → (St → Option R) → (AV → St → Option R) → Option R
  | [], s, k, _ => k s
  | o :: rest, s, k, kp => pre (opPrep lv o) s fun s => reg1 M Φ all o s (fun s' => regE lv all rest s' k kp) kp

def den {R : Type} (lv : Live) (n : Nat) : Code → (Ex → St → Option R) → St → Option R
  | .skip, K, s => K .normal s
  | .region id ops draw, K, s => pre (prep lv id) s fun s =>
    match draw with
    | false => regE M Φ lv ops.toList ops.toList s (fun s => s.force (fun s => K .normal s)) (fun v s => K (.pan v) s)
    | true => regA M Φ (fun v s => K (.pan v) s) ops.toList s (fun s => s.force (fun s => K .normal s))
  | .seq a b, K, s => den lv n a (fun e s' => match e with | .normal => den lv n b K s' | e => K e s') s
  | .cond c a b, K, s =>
    match evT M s.t 0 c with
    | some (.dv (.val (.bool x))) => match x with | true => den lv n a K s | false => den lv n b K s
    | _ => none
  | .block id b, K, s => den lv n b (fun e s' => match e with | .exit j => if Nat.beq j id then K .normal s' else K (.exit j) s' | e => K e s') s
  | .loop b, K, s =>
    match live lv (key b) with
    | some (tl, ml) => match norm tl ml s with
      | some s => loopE (key b) tl ml (fun K s => den lv n b K s) n K s
      | none => none
    | none => none
  | .exit id, K, s => K (.exit id) s
  | .ret, K, s => pre (prep lv 999998) s fun s => K .ret s
  | .scope b, K, s => den lv n b K s
  | .label _, K, s => K .normal s
  | _, _, _ => none

/-- The loop of a key; left: the rounds that the loops about it have left. -/
def find {R : Type} (lv : Live) (n : Nat) (q : Nat) : List Nat → Code → (Ex → St → Option R) → Option (LoopAt R)
  | left, .seq a b, K =>
    match find lv n q left a (fun e s' => match e with | .normal => den M Φ lv n b K s' | e => K e s') with
    | some r => some r
    | none => find lv n q left b K
  | left, .cond _ a b, K =>
    match find lv n q left a K with
    | some r => some r
    | none => find lv n q left b K
  | left, .scope b, K => find lv n q left b K
  | left, .block id b, K => find lv n q left b (fun e s' => match e with | .exit j => if Nat.beq j id then K .normal s' else K (.exit j) s' | e => K e s')
  | left, .loop b, K =>
    match live lv (key b) with
    | none => none
    | some (tl, ml) =>
      if Nat.beq (key b) q then some ⟨tl, ml, fun K s => den M Φ lv n b K s, K⟩ else
      match left with
      | [] => none
      | i :: left => find lv n q left b (fun e s' => match e with
        | .normal => match norm tl ml s' with
          | some s' => loopE (key b) tl ml (fun K s => den M Φ lv n b K s) i K s'
          | none => none
        | e => K e s')
  | _, _, _ => none

def resE {R : Type} (s : St) : List ResultVar → (List AV → Option R) → Option R
  | [], k => k []
  | .tmp t :: l, k => match s.t[t]? with
    | some v => resE s l fun vs => k (v :: vs)
    | none => none
  | .cell a t :: l, k => match s.t[a]? with
    | some v => loadE M s.m t v fun e => resE s l fun vs => k (e.val :: vs)
    | none => none
/-- What stands behind a function's body. -/
def fin {R : Type} (fn : Func) (keep : Bool) (ext : List (List AV)) (K : Out → Option R) (e : Ex) (s : St) : Option R :=
  match e with
  | .exit _ => none
  | .pan v => match extOf s.m 1000 ext with
    | some ex => K ⟨true, v.bare, ex⟩
    | none => none
  | _ => resE M s fn.results.toList fun vs => match canon keep vs, extOf s.m 1000 ext with
    | some v, some ex => K ⟨false, v, ex⟩
    | _, _ => none
def denFn {R : Type} (lv : Live) (n : Nat) (fn : Func) (keep : Bool) (args : List AV) (ext : List (List AV)) (K : Out → Option R) : Option R :=
  match fn.body with
  | none => none
  | some c =>
    if Nat.ble args.length fn.ntmps && !(AV.hasTokL args && anyPrep lv) then
      den M Φ lv n c (fin M fn keep ext K) { t := (match live lv 999999 with | some _ => AV.oldenL args | none => args) ++ List.replicate (fn.ntmps - args.length) .junk, m := zipExt 1000 ext }
    else none
/-- A function from a loop's head on: i rounds are left; left: of the loops about it. -/
def loopFn {R : Type} (lv : Live) (n : Nat) (fn : Func) (keep : Bool) (ext : List (List AV)) (K : Out → Option R) (q : Nat) (left : List Nat) (i : Nat) (s : St) : Option R :=
  match fn.body with
  | none => none
  | some c =>
    match find M Φ lv n q left c (fin M fn keep ext K) with
    | some r => loopE q r.tl r.ml r.body i r.K s
    | none => none
def ahead {R : Type} (lv : Live) (n : Nat) (kD : FuncId → List AV → Code → St → Option R) (K : Ex → St → Option R) : Code → St → Option R
  | .seq a b, s =>
    match deferOf a with
    | some (o1, f) => stepE M Φ o1 s (fun s => match evT M s.t 0 f with
      | some (.fn g caps) => kD g caps b s
      | _ => none) (fun v s => K (.pan v) s)
    | none => den M Φ lv n a (fun e s' => match e with | .normal => ahead lv n kD K b s' | e => K e s') s
  | _, _ => none
/-- The deferred function: rv is what recover tells it. -/
def denClo {R : Type} (lv : Live) (n : Nat) (fn : Func) (rv : AV) (args : List AV) (ext : List (List AV)) (K : Out → Option R) : Option R :=
  match fn.body with
  | some (.seq (.region _ ops false) b) =>
    match ops.toList with
    | o :: os =>
      match isRecover o && Nat.ble args.length fn.ntmps with
      | true => (St.mk (setT (args ++ List.replicate (fn.ntmps - args.length) .junk) o.dst rv) (zipExt 1000 ext)).force fun s => regE M Φ [] (o :: os) os s
          (fun s => s.force (fun s => den M Φ lv n b (fin M fn false ext K) s)) (fun v s => fin M fn false ext K (.pan v) s)
      | false => none
    | [] => none
  | _ => none
/-- How a function with a deferred call is left: u is what it panics with. -/
def leaveU {R : Type} (lvC : Live) (n : Nat) (fn g : Func) (gid : FuncId) (caps : List AV) (K : Out → Option R) (rv : List Nat → AV) (s : St) : Option R :=
  forceN (dedup (AV.slots caps)) fun ks =>
  match cellsOf s.m ks ks with
  | some ext => denClo M Φ lvC n g (rv ks) (AV.passL ks caps) ext (fun out => match out.pan with
    | false => (s.apply none (callEff ks none out)).force fun s => resE M s fn.results.toList fun vs => match canon false vs with
      | some v => match v.loose with
        | true => K ⟨false, v, []⟩
        | false => none
      | none => none
    | true => none)
  | none => none
def leaveE {R : Type} (lvC : Live) (n : Nat) (fn g : Func) (gid : FuncId) (caps : List AV) (K : Out → Option R) (e : Ex) (s : St) : Option R :=
  match e with
  | .exit _ => none
  | .pan v => leaveU M Φ lvC n fn g gid caps K (fun ks => AV.pass ks v) s
  | _ => leaveU M Φ lvC n fn g gid caps K (fun _ => .dv (.val .nilIface)) s
/-- A function that defers a call of function gid. -/
def denFnD {R : Type} (lv : Live) (n : Nat) (fn g : Func) (gid : FuncId) (lvC : Live) (args : List AV) (K : Out → Option R) : Option R :=
  match fn.body with
  | none => none
  | some c =>
    if Nat.ble args.length fn.ntmps && !(AV.hasTokL args) then
      ahead M Φ lv n (fun f caps b s =>
        forceN (dedup (AV.slots s.t)) fun ks => AV.forceL (AV.passL ks caps) fun caps =>
        match Nat.beq f gid && allPl caps, cellsOf s.m ks ks with
        | true, some ext => (St.mk (AV.passL ks s.t) (zipExt 1000 ext)).force fun s => den M Φ lv n b (leaveE M Φ lvC n fn g gid caps K) s
        | _, _ => none) (fin M fn false [] K) c { t := args ++ List.replicate (fn.ntmps - args.length) .junk, m := zipExt 1000 [] }
    else none
/-- Such a function from a loop's head on, behind the defer. -/
def loopFnD {R : Type} (lv : Live) (n : Nat) (fn g : Func) (gid : FuncId) (lvC : Live) (caps : List AV) (K : Out → Option R) (q : Nat) (left : List Nat) (i : Nat) (s : St) : Option R :=
  match fn.body with
  | none => none
  | some c =>
    match behind c with
    | none => none
    | some b =>
      match find M Φ lv n q left b (leaveE M Φ lvC n fn g gid caps K) with
      | some r => loopE q r.tl r.ml r.body i r.K s
      | none => none
def roundFn {R : Type} (lv : Live) (n : Nat) (fn : Func) (keep : Bool) (ext : List (List AV)) (K : Out → Option R) (q : Nat) (left : List Nat) (i : Nat) (s : St) : Option R :=
  match fn.body with
  | none => none
  | some c =>
    match find M Φ lv n q left c (fin M fn keep ext K) with
    | some r => r.body (fun e s' => match e with
      | .normal => match norm r.tl r.ml s' with
        | some s' => loopE q r.tl r.ml r.body i r.K s'
        | none => none
      | e => r.K e s') s
    | none => none
def roundFnD {R : Type} (lv : Live) (n : Nat) (fn g : Func) (gid : FuncId) (lvC : Live) (caps : List AV) (K : Out → Option R) (q : Nat) (left : List Nat) (i : Nat) (s : St) : Option R :=
  match fn.body with
  | none => none
  | some c =>
    match behind c with
    | none => none
    | some b =>
      match find M Φ lv n q left b (leaveE M Φ lvC n fn g gid caps K) with
      | some r => r.body (fun e s' => match e with
        | .normal => match norm r.tl r.ml s' with
          | some s' => loopE q r.tl r.ml r.body i r.K s'
          | none => none
        | e => r.K e s') s
      | none => none
end
end Go.Den.DM
